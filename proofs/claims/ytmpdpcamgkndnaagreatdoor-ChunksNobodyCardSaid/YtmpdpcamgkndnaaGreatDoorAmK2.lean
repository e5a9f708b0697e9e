/- The abstract machine, tuned for the kernel: heaps, operations. Conditions: none; each is shown equal to what it stands for. -/
import Derived.Test.YtmpdpcamgkndnaaGreatDoorAmK4
set_option linter.constructorNameAsVariable false
set_option linter.unusedSimpArgs false
set_option linter.unusedVariables false
namespace Go.Am

/-! ### Heaps -/
noncomputable def trGet {α : Type} (t : Tr α) (n : Nat) : Option α :=
  @Tr.rec α (fun _ => Nat → Option α) (fun _ => none) (fun _ v _ ihl ihr n => @Nat.rec (fun _ => Option α) v (fun j _ => @Bool.rec (fun _ => Option α) (ihr (Nat.pred (Nat.div (Nat.succ j) 2))) (ihl (Nat.div (Nat.succ j) 2)) (Nat.beq (Nat.mod (Nat.succ j) 2) 1)) n) t n
theorem trGet_eq {α : Type} : ∀ (t : Tr α) (n : Nat), trGet t n = t.get n
  | .nil, n => by rw [Tr.get_nil]; rfl
  | .node l v r, 0 => rfl
  | .node l v r, j + 1 => by
    show @Bool.rec (fun _ => Option α) (trGet r (Nat.pred (Nat.div (Nat.succ j) 2))) (trGet l (Nat.div (Nat.succ j) 2)) (Nat.beq (Nat.mod (Nat.succ j) 2) 1) = _
    rw [trGet_eq l, trGet_eq r]
    simp only [Tr.get, Nat.succ_ne_zero, if_false]
    by_cases h : (j + 1) % 2 = 1
    · have : Nat.beq (Nat.mod (Nat.succ j) 2) 1 = true := by rw [Nat.beq_eq]; exact h
      rw [this, if_pos h]; rfl
    · have : Nat.beq (Nat.mod (Nat.succ j) 2) 1 = false := by
        cases hh : Nat.beq (Nat.mod (Nat.succ j) 2) 1 with
        | false => rfl
        | true => exact absurd (Nat.beq_eq ▸ hh) h
      rw [this, if_neg h]; rfl

noncomputable def trSet (f : Nat) (t : Tr Blk) (n : Nat) (b : Option Blk) : Tr Blk :=
  @Nat.rec (fun _ => Tr Blk → Nat → Tr Blk) (fun t _ => t) (fun _ ih t n =>
    @Tr.rec Blk (fun _ => Tr Blk)
      (@Nat.rec (fun _ => Tr Blk) (.node .nil b .nil) (fun j _ => @Bool.rec (fun _ => Tr Blk) (.node .nil none (ih .nil (Nat.pred (Nat.div (Nat.succ j) 2)))) (.node (ih .nil (Nat.div (Nat.succ j) 2)) none .nil) (Nat.beq (Nat.mod (Nat.succ j) 2) 1)) n)
      (fun l v r _ _ => @Nat.rec (fun _ => Tr Blk) (.node l b r) (fun j _ => @Bool.rec (fun _ => Tr Blk) (.node l v (ih r (Nat.pred (Nat.div (Nat.succ j) 2)))) (.node (ih l (Nat.div (Nat.succ j) 2)) v r) (Nat.beq (Nat.mod (Nat.succ j) 2) 1)) n) t) f t n

theorem trSet_eq (b : Option Blk) : ∀ (f : Nat) (t : Tr Blk) (n : Nat), trSet f t n b = Tr.set f t n b
  | 0, t, n => rfl
  | f + 1, .nil, 0 => rfl
  | f + 1, .node l v r, 0 => rfl
  | f + 1, .nil, j + 1 => by
    show @Bool.rec (fun _ => Tr Blk) (.node .nil none (trSet f .nil (Nat.pred (Nat.div (Nat.succ j) 2)) b)) (.node (trSet f .nil (Nat.div (Nat.succ j) 2) b) none .nil) (Nat.beq (Nat.mod (Nat.succ j) 2) 1) = _
    rw [trSet_eq b f, trSet_eq b f]
    simp only [Tr.set, Nat.succ_ne_zero, if_false]
    by_cases h : (j + 1) % 2 = 1
    · have : Nat.beq (Nat.mod (Nat.succ j) 2) 1 = true := by rw [Nat.beq_eq]; exact h
      rw [this, if_pos h]; rfl
    · have : Nat.beq (Nat.mod (Nat.succ j) 2) 1 = false := by
        cases hh : Nat.beq (Nat.mod (Nat.succ j) 2) 1 with
        | false => rfl
        | true => exact absurd (Nat.beq_eq ▸ hh) h
      rw [this, if_neg h]; rfl
  | f + 1, .node l v r, j + 1 => by
    show @Bool.rec (fun _ => Tr Blk) (.node l v (trSet f r (Nat.pred (Nat.div (Nat.succ j) 2)) b)) (.node (trSet f l (Nat.div (Nat.succ j) 2) b) v r) (Nat.beq (Nat.mod (Nat.succ j) 2) 1) = _
    rw [trSet_eq b f, trSet_eq b f]
    simp only [Tr.set, Nat.succ_ne_zero, if_false]
    by_cases h : (j + 1) % 2 = 1
    · have : Nat.beq (Nat.mod (Nat.succ j) 2) 1 = true := by rw [Nat.beq_eq]; exact h
      rw [this, if_pos h]; rfl
    · have : Nat.beq (Nat.mod (Nat.succ j) 2) 1 = false := by
        cases hh : Nat.beq (Nat.mod (Nat.succ j) 2) 1 with
        | false => rfl
        | true => exact absurd (Nat.beq_eq ▸ hh) h
      rw [this, if_neg h]; rfl

noncomputable def getK (h : Heap) (n : Nat) : Option Blk := @Bool.rec (fun _ => Option Blk) none (trGet h.tr n) (Nat.ble (Nat.succ n) h.next)
theorem getK_eq (h : Heap) (n : Nat) : getK h n = h.get n := by
  unfold getK Heap.get
  rw [trGet_eq]
  by_cases hl : n < h.next
  · rw [Nat.ble_eq_true_of_le hl, if_pos hl]
  · have : Nat.ble (Nat.succ n) h.next = false := by
      cases hh : Nat.ble (Nat.succ n) h.next with
      | false => rfl
      | true => exact absurd (Nat.le_of_ble_eq_true hh) hl
    rw [this, if_neg hl]

/-- A heap, forced at its root. -/
noncomputable def hpK {R : Type} (h : Heap) (k : Heap → R) : R := natK h.next fun n => @Tr.rec Blk (fun _ => R) (k ⟨n, .nil⟩) (fun l v r _ _ => k ⟨n, .node l v r⟩) h.tr
theorem hpK_eq {R : Type} (h : Heap) (k : Heap → R) : hpK h k = k h := by
  obtain ⟨n, tr⟩ := h
  unfold hpK
  rw [natK_eq]
  cases tr <;> rfl

noncomputable def hputK {R : Type} (h : Heap) (n : Nat) (b : Blk) (k : Heap → R) : R := hpK ⟨h.next, trSet (Nat.succ n) h.tr n (some b)⟩ k
theorem hputK_eq {R : Type} (h : Heap) (n : Nat) (b : Blk) (k : Heap → R) : hputK h n b k = k (h.put n b) := by
  unfold hputK; rw [hpK_eq, trSet_eq]; rfl
noncomputable def hnewK {R : Type} (h : Heap) (b : Blk) (k : Heap → R) : R := hpK ⟨Nat.succ h.next, trSet (Nat.succ h.next) h.tr h.next (some b)⟩ k
theorem hnewK_eq {R : Type} (h : Heap) (b : Blk) (k : Heap → R) : hnewK h b k = k (h.new b) := by
  unfold hnewK; rw [hpK_eq, trSet_eq]; rfl

/-- Cells of a row, from place o on: as many as there are new ones are turned; what is too far off fails. -/
noncomputable def splK {R : Type} (vs : List AV) (bad : R) (l : List AV) (o : Nat) (k : List AV → R) : R :=
  @List.rec AV (fun _ => Nat → (List AV → R) → R) (fun o k => @List.rec AV (fun _ => R) (@Nat.rec (fun _ => R) (k []) (fun _ _ => bad) o) (fun _ _ _ => bad) vs)
    (fun a l ih o k => @Nat.rec (fun _ => R) (k (vs ++ (a :: l).drop vs.length)) (fun j _ => ih j fun l' => k (a :: l')) o) l o k

theorem splK_eq {R : Type} (vs : List AV) (bad : R) : ∀ (l : List AV) (o : Nat) (k : List AV → R), o + vs.length ≤ l.length → splK vs bad l o k = k (splice l o vs)
  | [], o, k, h => by
    simp only [List.length_nil, Nat.le_zero_eq, Nat.add_eq_zero_iff] at h
    obtain ⟨h1, h2⟩ := h
    subst h1
    have : vs = [] := List.eq_nil_of_length_eq_zero h2
    subst this
    rfl
  | a :: l, 0, k, h => by
    show k (vs ++ (a :: l).drop vs.length) = _
    simp [splice]
  | a :: l, o + 1, k, h => by
    show splK vs bad l o _ = _
    rw [splK_eq vs bad l o _ (by simp at h; omega)]
    simp [splice, Nat.succ_add]

/-! ### Operations -/
abbrev OpT := (AO → AV) → Heap → Option (AV × Heap)
def gq (op : AOp) : OpT := fun e h => (qv h [] (op.sub e)).map fun v => (v, h)
def ga (op : AOp) : OpT := fun e h => (al [] (op.sub e)).map fun p => (p.2 h.next, h.new p.1)
def ge (op : AOp) : OpT := fun e h => ef h [] (op.sub e)

noncomputable def k_mov (x : AO) : OpT := fun e h => some (e x, h)
noncomputable def k_bin (op : BinOp) (x y : AO) : OpT := fun e h =>
  match e x with
  | .int k a =>
    match e y with
    | .int k' b => (intOpK op k a k' b).map fun v => (v, h)
    | w => (abin op (.int k a) w).map fun v => (v, h)
  | u => (abin op u (e y)).map fun v => (v, h)
noncomputable def k_conv (k : IntKind) (x : AO) : OpT := fun e h =>
  match e x with
  | .int _ n => some (.int k (wrapK k n), h)
  | _ => none

noncomputable def csK (h : Heap) (n : Nat) : Option (List AV) :=
  match getK h n with
  | some (.cells _ l _) => some l
  | _ => none
theorem csK_eq (h : Heap) (n : Nat) : csK h n = h.cs n := by unfold csK Heap.cs; rw [getK_eq]; rfl

noncomputable def lnth (l : List AV) (i : Nat) : Option AV := @List.rec AV (fun _ => Nat → Option AV) (fun _ => none) (fun a _ ih i => @Nat.rec (fun _ => Option AV) (some a) (fun j _ => ih j) i) l i
theorem lnth_eq : ∀ (l : List AV) (i : Nat), lnth l i = l[i]?
  | [], i => by simp [lnth]
  | a :: l, 0 => rfl
  | a :: l, i + 1 => by show lnth l i = _; rw [lnth_eq l i]; simp

noncomputable def ldK (h : Heap) (a : Nat × Nat) : Option AV :=
  match csK h a.1 with
  | some l => lnth l a.2
  | none => none
theorem ldK_eq (h : Heap) (a : Nat × Nat) : ldK h a = h.ld a := by
  unfold ldK Heap.ld; rw [csK_eq]; split <;> simp_all [lnth_eq]

noncomputable def k_load (x : AO) : OpT := fun e h =>
  match e x with
  | .ptr (some a) => (ldK h a).map fun v => (v, h)
  | _ => none
noncomputable def k_loadN (n : Nat) (x : AO) : OpT := fun e h =>
  match e x with
  | .ptr (some a) => (h.ldN a n).map fun l => (.agg l, h)
  | _ => none
noncomputable def k_nil (x : AO) : OpT := fun e h =>
  match e x with
  | .ptr (some a) => some (.ptr (some a), h)
  | .fn f cs => some (.fn f cs, h)
  | .yield l => some (.yield l, h)
  | _ => none
noncomputable def k_fieldAddr (off : Nat) (x : AO) : OpT := fun e h =>
  match e x with
  | .ptr (some a) => some (.ptr (some (a.1, Nat.add a.2 off)), h)
  | _ => none
noncomputable def k_field1 (off : Nat) (x : AO) : OpT := fun e h =>
  match e x with
  | .agg l => (lnth l off).map fun v => (v, h)
  | _ => none
noncomputable def inB (n : Int) (len : Nat) : Bool := @Int.rec (fun _ => Bool) (fun m => Nat.ble (Nat.succ m) len) (fun _ => false) n
theorem inB_eq (n : Int) (len : Nat) : inB n len = decide (0 ≤ n ∧ n < len) := by
  cases n with
  | ofNat m =>
    show Nat.ble (Nat.succ m) len = _
    by_cases h : m < len
    · rw [Nat.ble_eq_true_of_le h]; simp; omega
    · have : Nat.ble (Nat.succ m) len = false := by
        cases hh : Nat.ble (Nat.succ m) len with
        | false => rfl
        | true => exact absurd (Nat.le_of_ble_eq_true hh) h
      rw [this]; simp; omega
  | negSucc m => show false = _; simp
noncomputable def k_idxAddrArr (len size : Nat) (x i : AO) : OpT := fun e h =>
  match e x, e i with
  | .ptr (some a), .int _ n => @Bool.rec (fun _ => Option (AV × Heap)) none (some (.ptr (some (a.1, a.2 + n.toNat * size)), h)) (inB n len)
  | _, _ => none
noncomputable def k_idxAddrSl (size : Nat) (x i : AO) : OpT := fun e h =>
  match e x, e i with
  | .sl (some a) len _ _, .int _ n => @Bool.rec (fun _ => Option (AV × Heap)) none (some (.ptr (some (a.1, a.2 + n.toNat * size)), h)) (inB n len)
  | _, _ => none
noncomputable def k_idxArr1 (len : Nat) (x i : AO) : OpT := fun e h =>
  match e x, e i with
  | .agg l, .int _ n => @Bool.rec (fun _ => Option (AV × Heap)) none ((lnth l n.toNat).map fun v => (v, h)) (inB n len)
  | _, _ => none
noncomputable def k_ext (x : AO) (i : Nat) : OpT := fun e h =>
  match e x with
  | .tup l => (lnth l i).map fun v => (v, h)
  | _ => none
noncomputable def k_len (k : Nat) (x : AO) : OpT := fun e h =>
  match k, e x with
  | 0, .str l => some (.int .i64 l.length, h)
  | 1, .sl _ n _ _ => some (.int .i64 (Int.ofNat n), h)
  | _, _ => gq (.len k x) e h
def k_lenC (n : Nat) : OpT := fun e h => some (.int .i64 (Int.ofNat n), h)
noncomputable def k_alloc (ty : Nat) (z : List AV) : OpT := fun e h => hnewK h (.cells ty z false) fun h' => some (.ptr (some (h.next, 0)), h')
noncomputable def k_box (ty : Nat) (x : AO) : OpT := fun e h => if (e x).cells.all AV.flat then hnewK h (.cells ty (e x).cells false) fun h' => some (.ptr (some (h.next, 0)), h') else none

/-- One cell is stored. -/
noncomputable def st1K (h : Heap) (a : Nat × Nat) (v : AV) : Option (AV × Heap) :=
  match getK h a.1 with
  | some (.cells e l false) => @Bool.rec (fun _ => Option (AV × Heap)) none (@Option.rec AV (fun _ => Option (AV × Heap)) none (fun _ => splK [v] none l a.2 fun l' => hputK h a.1 (.cells e l' false) fun h' => some (undefA, h')) (lnth l a.2)) v.flat
  | _ => none
noncomputable def k_store (n : Nat) (a x : AO) : OpT := fun e h =>
  match e a with
  | .ptr (some p) =>
    match e x with
    | .agg l => gst n p (.agg l) h
    | .tup l => gst n p (.tup l) h
    | .top => none
    | v => @Bool.rec (fun _ => Option (AV × Heap)) none (avK v fun v => st1K h p v) (Nat.beq 1 n)
  | _ => none
where
  gst (n : Nat) (p : Nat × Nat) (v : AV) (h : Heap) : Option (AV × Heap) := if v.cells.length = n then (h.stN p v.cells).map fun h' => (undefA, h') else none

section
variable {fns : Nat → Option AFn} {rec : ARec} {t : List AV} {h : Heap}

theorem st1_eq (a : Nat × Nat) (v : AV) (hv : v.cells = [v]) : st1K h a v = (h.stN a v.cells).map fun h' => (undefA, h') := by
  unfold st1K
  rw [getK_eq, hv]
  simp only [Heap.stN]
  split
  · rename_i e l hg
    simp only [hg, List.length_singleton, List.all_cons, List.all_nil, Bool.and_true]
    cases hf : v.flat with
    | false => simp
    | true =>
      rw [lnth_eq]
      by_cases hl : a.2 < l.length
      · have h1 : l[a.2]? = some l[a.2] := List.getElem?_eq_getElem hl
        rw [h1, if_pos ⟨by omega, rfl⟩]
        simp only [splK_eq [v] none l a.2 _ (show a.2 + [v].length ≤ l.length by simp; omega), hputK_eq]
        rfl
      · have h1 : l[a.2]? = none := List.getElem?_eq_none (by omega)
        rw [h1, if_neg (fun hh => hl (by omega))]
        rfl
  · rename_i hn
    split
    · rename_i e l hg; exact absurd hg (hn _ _)
    · rfl

end
end Go.Am

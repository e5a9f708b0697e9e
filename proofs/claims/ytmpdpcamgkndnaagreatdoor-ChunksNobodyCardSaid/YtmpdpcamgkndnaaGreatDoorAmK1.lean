/- The abstract machine, tuned for the kernel: numbers, slots, forcing. Conditions: none; each is shown equal to what it stands for. -/
import Derived.Test.YtmpdpcamgkndnaaGreatDoorAmTab
set_option linter.constructorNameAsVariable false
set_option linter.unusedSimpArgs false
set_option linter.unusedVariables false
namespace Go.Am

/-! ### Forcing -/
noncomputable def natK {R : Type} (n : Nat) (k : Nat → R) : R := @Nat.rec (fun _ => R) (k 0) (fun j _ => k (Nat.succ j)) n
theorem natK_eq {R : Type} (n : Nat) (k : Nat → R) : natK n k = k n := by cases n <;> rfl
noncomputable def intK {R : Type} (n : Int) (k : Int → R) : R := @Int.rec (fun _ => R) (fun m => natK m fun m => k (Int.ofNat m)) (fun m => natK m fun m => k (Int.negSucc m)) n
theorem intK_eq {R : Type} (n : Int) (k : Int → R) : intK n k = k n := by cases n <;> simp [intK, natK_eq]
noncomputable def boolK {R : Type} (b : Bool) (k : Bool → R) : R := @Bool.rec (fun _ => R) (k false) (k true) b
theorem boolK_eq {R : Type} (b : Bool) (k : Bool → R) : boolK b k = k b := by cases b <;> rfl
noncomputable def ikK {R : Type} (b : IntKind) (k : IntKind → R) : R := @IntKind.rec (fun _ => R) (k .i8) (k .i16) (k .i32) (k .i64) (k .u8) (k .u16) (k .u32) (k .u64) b
theorem ikK_eq {R : Type} (b : IntKind) (k : IntKind → R) : ikK b k = k b := by cases b <;> rfl
noncomputable def adK {R : Type} (a : Option (Nat × Nat)) (k : Option (Nat × Nat) → R) : R := @Option.rec _ (fun _ => R) (k none) (fun p => natK p.1 fun x => natK p.2 fun y => k (some (x, y))) a
theorem adK_eq {R : Type} (a : Option (Nat × Nat)) (k : Option (Nat × Nat) → R) : adK a k = k a := by cases a <;> simp [adK, natK_eq]

/-- A value, forced as far as numbers go. -/
noncomputable def v_bool {R : Type} (b : Bool) (k : AV → R) : R := boolK b fun b => k (.bool b)
noncomputable def v_int {R : Type} (kd : IntKind) (n : Int) (k : AV → R) : R := intK n fun n => k (.int kd n)
noncomputable def v_ptr {R : Type} (a : Option (Nat × Nat)) (k : AV → R) : R := adK a fun a => k (.ptr a)
noncomputable def v_sl {R : Type} (a : Option (Nat × Nat)) (l c : Nat) (e : Option Nat) (k : AV → R) : R := adK a fun a => natK l fun l => natK c fun c => k (.sl a l c e)
noncomputable def avK {R : Type} (v : AV) (k : AV → R) : R :=
  @AV.casesOn (fun _ => (AV → R) → R) v (fun k => k .top) v_bool v_int (fun l k => k (.str l)) v_ptr v_sl (fun r k => k (.map r)) (fun f l k => k (.fn f l)) (fun l k => k (.yield l)) (fun k => k .nilf) (fun l k => k (.agg l)) (fun l k => k (.tup l)) k
theorem avK_eq {R : Type} (v : AV) (k : AV → R) : avK v k = k v := by
  cases v <;> simp [avK, v_bool, v_int, v_ptr, v_sl, intK_eq, boolK_eq, adK_eq, natK_eq]

/-! ### Slots -/
noncomputable def lget (t : List AV) (i : Nat) : AV := @List.rec AV (fun _ => Nat → AV) (fun _ => undefA) (fun a _ ih i => @Nat.rec (fun _ => AV) a (fun j _ => ih j) i) t i
theorem lget_eq : ∀ (t : List AV) (i : Nat), lget t i = t.getD i undefA
  | [], i => by simp [lget]
  | a :: t, 0 => rfl
  | a :: t, i + 1 => by
    show lget t i = _
    rw [lget_eq t i]; simp

noncomputable def lsetK {R : Type} (t : List AV) (i : Nat) (v : AV) (k : List AV → R) : R :=
  @List.rec AV (fun _ => Nat → (List AV → R) → R) (fun _ k => k []) (fun a t ih i k => @Nat.rec (fun _ => R) (k (v :: t)) (fun j _ => ih j fun t' => k (a :: t')) i) t i k
theorem lsetK_eq {R : Type} (v : AV) : ∀ (t : List AV) (i : Nat) (k : List AV → R), lsetK t i v k = k (t.set i v)
  | [], i, k => by simp [lsetK]
  | a :: t, 0, k => rfl
  | a :: t, i + 1, k => by
    show lsetK t i v _ = _
    rw [lsetK_eq v t i]; rfl

noncomputable def putK {R : Type} (t : List AV) (d : Option Nat) (v : AV) (k : List AV → R) : R :=
  @Option.rec Nat (fun _ => R) (k t) (fun d => avK v fun v => lsetK t d v k) d
theorem putK_eq {R : Type} (t : List AV) (d : Option Nat) (v : AV) (k : List AV → R) : putK t d v k = k (setO t d v) := by
  cases d <;> simp [putK, avK_eq, lsetK_eq, setO]

noncomputable def evK (x : AO) (t : List AV) : AV := @AO.rec (fun _ => List AV → AV) (fun i t => lget t i) (fun c _ => c) (fun g _ => .ptr (some (g, 0))) (fun f _ => .fn f []) x t
theorem evK_eq (x : AO) (t : List AV) : evK x t = x.ev t := by cases x <;> simp [evK, AO.ev, lget_eq]

noncomputable def evsK (l : List AO) (t : List AV) : List AV := @List.rec AO (fun _ => List AV) [] (fun x _ ih => evK x t :: ih) l
theorem evsK_eq (l : List AO) (t : List AV) : evsK l t = l.map (AO.ev t) := by
  induction l with
  | nil => rfl
  | cons x l ih => show evK x t :: evsK l t = _; rw [evK_eq, ih]; rfl

/-! ### Numbers -/
noncomputable def uN (M : Nat) (n : Int) : Nat := @Int.rec (fun _ => Nat) (fun m => m % M) (fun m => M - (m % M + 1)) n
noncomputable def sW (M H : Nat) (n : Int) : Int := natK (uN M n) fun r => @Bool.rec (fun _ => Int) (Int.ofNat r) (Int.negSucc (M - (r + 1))) (Nat.ble H r)
noncomputable def uW (M : Nat) (n : Int) : Int := Int.ofNat (uN M n)

theorem uN_eq {M : Nat} (hM : 0 < M) (n : Int) : ((uN M n : Nat) : Int) = n % (M : Int) := by
  cases n with
  | ofNat m => simp [uN]
  | negSucc m =>
    have h1 : m % M < M := Nat.mod_lt _ hM
    show ((M - (m % M + 1) : Nat) : Int) = _
    rw [Int.negSucc_emod _ (by omega)]
    omega

noncomputable def modK (k : IntKind) : Nat := @IntKind.rec (fun _ => Nat) 256 65536 4294967296 18446744073709551616 256 65536 4294967296 18446744073709551616 k
theorem modK_eq (k : IntKind) : modK k = 2 ^ k.bits := by cases k <;> rfl

noncomputable def wrapK (k : IntKind) (n : Int) : Int :=
  @IntKind.rec (fun _ => Int → Int) (sW 256 128) (sW 65536 32768) (sW 4294967296 2147483648) (sW 18446744073709551616 9223372036854775808) (uW 256) (uW 65536) (uW 4294967296) (uW 18446744073709551616) k n

theorem sW_eq {M H : Nat} (hM : 0 < M) (hH : H ≤ M) (n : Int) : sW M H n = if n % (M : Int) ≥ (H : Int) then n % (M : Int) - (M : Int) else n % (M : Int) := by
  have h := uN_eq hM n
  have hlt : uN M n < M := by
    have := Int.emod_lt_of_pos n (show (0 : Int) < M by omega)
    omega
  unfold sW
  rw [natK_eq, ← h]
  by_cases hb : H ≤ uN M n
  · have : Nat.ble H (uN M n) = true := Nat.ble_eq_true_of_le hb
    rw [this, if_pos (by omega)]
    show Int.negSucc _ = _
    rw [Int.negSucc_eq]; omega
  · have : Nat.ble H (uN M n) = false := by
      cases hh : Nat.ble H (uN M n) with
      | false => rfl
      | true => exact absurd (Nat.le_of_ble_eq_true hh) hb
    rw [this, if_neg (by omega)]
    rfl

theorem uW_eq {M : Nat} (hM : 0 < M) (n : Int) : uW M n = n % (M : Int) := by rw [← uN_eq hM n]; rfl

theorem wrapK_eq (k : IntKind) (n : Int) : wrapK k n = k.wrap n := by
  cases k
  · show sW 256 128 n = _; rw [sW_eq (by decide) (by decide)]; simp [IntKind.wrap, IntKind.bits, IntKind.signed]
  · show sW 65536 32768 n = _; rw [sW_eq (by decide) (by decide)]; simp [IntKind.wrap, IntKind.bits, IntKind.signed]
  · show sW 4294967296 2147483648 n = _; rw [sW_eq (by decide) (by decide)]; simp [IntKind.wrap, IntKind.bits, IntKind.signed]
  · show sW 18446744073709551616 9223372036854775808 n = _; rw [sW_eq (by decide) (by decide)]; simp [IntKind.wrap, IntKind.bits, IntKind.signed]
  · show uW 256 n = _; rw [uW_eq (by decide)]; simp [IntKind.wrap, IntKind.bits, IntKind.signed]
  · show uW 65536 n = _; rw [uW_eq (by decide)]; simp [IntKind.wrap, IntKind.bits, IntKind.signed]
  · show uW 4294967296 n = _; rw [uW_eq (by decide)]; simp [IntKind.wrap, IntKind.bits, IntKind.signed]
  · show uW 18446744073709551616 n = _; rw [uW_eq (by decide)]; simp [IntKind.wrap, IntKind.bits, IntKind.signed]

theorem uN_ofInt (k : IntKind) (a : Int) : (BitVec.ofInt k.bits a).toNat = uN (modK k) a := by
  have hM : 0 < modK k := by cases k <;> decide
  have h := uN_eq hM a
  rw [BitVec.toNat_ofInt]
  rw [modK_eq] at h ⊢
  omega

noncomputable def landK (k : IntKind) (a b : Int) : Int := Int.ofNat (Nat.land (uN (modK k) a) (uN (modK k) b))
noncomputable def lorK (k : IntKind) (a b : Int) : Int := Int.ofNat (Nat.lor (uN (modK k) a) (uN (modK k) b))
noncomputable def lxorK (k : IntKind) (a b : Int) : Int := Int.ofNat (Nat.xor (uN (modK k) a) (uN (modK k) b))
noncomputable def landnK (k : IntKind) (a b : Int) : Int := Int.ofNat (Nat.land (uN (modK k) a) (modK k - 1 - uN (modK k) b))

theorem landK_eq (k : IntKind) (a b : Int) : landK k a b = ((BitVec.ofInt k.bits a &&& BitVec.ofInt k.bits b).toNat : Int) := by
  rw [BitVec.toNat_and, uN_ofInt, uN_ofInt]; rfl
theorem lorK_eq (k : IntKind) (a b : Int) : lorK k a b = ((BitVec.ofInt k.bits a ||| BitVec.ofInt k.bits b).toNat : Int) := by
  rw [BitVec.toNat_or, uN_ofInt, uN_ofInt]; rfl
theorem lxorK_eq (k : IntKind) (a b : Int) : lxorK k a b = ((BitVec.ofInt k.bits a ^^^ BitVec.ofInt k.bits b).toNat : Int) := by
  rw [BitVec.toNat_xor, uN_ofInt, uN_ofInt]; rfl
theorem landnK_eq (k : IntKind) (a b : Int) : landnK k a b = ((BitVec.ofInt k.bits a &&& ~~~BitVec.ofInt k.bits b).toNat : Int) := by
  rw [BitVec.toNat_and, BitVec.toNat_not, uN_ofInt, uN_ofInt, ← modK_eq]; rfl

noncomputable def ltK (a b : Int) : Bool := @Int.rec (fun _ => Bool) (fun x => @Int.rec (fun _ => Bool) (fun y => Nat.ble (Nat.succ x) y) (fun _ => false) b) (fun x => decide (Int.negSucc x < b)) a
theorem ltK_eq (a b : Int) : ltK a b = decide (a < b) := by
  cases a with
  | ofNat x =>
    cases b with
    | ofNat y =>
      show Nat.ble (Nat.succ x) y = _
      by_cases h : x < y
      · rw [Nat.ble_eq_true_of_le h]; simp; exact h
      · have : Nat.ble (Nat.succ x) y = false := by
          cases hh : Nat.ble (Nat.succ x) y with
          | false => rfl
          | true => exact absurd (Nat.le_of_ble_eq_true hh) h
        rw [this]; simp; omega
    | negSucc y => show false = _; simp; omega
  | negSucc x => rfl
noncomputable def eqK (a b : Int) : Bool := @Int.rec (fun _ => Bool) (fun x => @Int.rec (fun _ => Bool) (fun y => Nat.beq x y) (fun _ => false) b) (fun x => Int.negSucc x == b) a
theorem eqK_eq (a b : Int) : eqK a b = (a == b) := by
  cases a with
  | ofNat x =>
    cases b with
    | ofNat y =>
      show Nat.beq x y = _
      rw [Bool.eq_iff_iff]
      simp only [Nat.beq_eq, beq_iff_eq, Int.ofNat_eq_natCast, Int.natCast_inj]
    | negSucc y => show false = _; simp
  | negSucc x => rfl

theorem beq_not_lt (a b : Int) : decide (a ≤ b) = !decide (b < a) := by
  by_cases h : a ≤ b
  · have : ¬ b < a := by omega
    simp [h, this]
  · have : b < a := by omega
    simp [h, this]

noncomputable def ikEq (k k' : IntKind) : Bool :=
  @IntKind.rec (fun _ => IntKind → Bool) (fun k => @IntKind.rec (fun _ => Bool) true false false false false false false false k) (fun k => @IntKind.rec (fun _ => Bool) false true false false false false false false k)
    (fun k => @IntKind.rec (fun _ => Bool) false false true false false false false false k) (fun k => @IntKind.rec (fun _ => Bool) false false false true false false false false k)
    (fun k => @IntKind.rec (fun _ => Bool) false false false false true false false false k) (fun k => @IntKind.rec (fun _ => Bool) false false false false false true false false k)
    (fun k => @IntKind.rec (fun _ => Bool) false false false false false false true false k) (fun k => @IntKind.rec (fun _ => Bool) false false false false false false false true k) k k'
noncomputable def okK (k k' : IntKind) (r : AV) : Option AV := @Bool.rec (fun _ => Option AV) none (some r) (ikEq k k')
theorem okK_eq (k k' : IntKind) (r : AV) : okK k k' r = if k = k' then some r else none := by cases k <;> cases k' <;> rfl

abbrev IOp := IntKind → Int → IntKind → Int → Option AV
noncomputable def i_add : IOp := fun k a k' b => okK k k' (.int k (wrapK k (Int.add a b)))
noncomputable def i_sub : IOp := fun k a k' b => okK k k' (.int k (wrapK k (Int.sub a b)))
noncomputable def i_mul : IOp := fun k a k' b => okK k k' (.int k (wrapK k (Int.mul a b)))
noncomputable def i_and : IOp := fun k a k' b => okK k k' (.int k (wrapK k (landK k a b)))
noncomputable def i_or : IOp := fun k a k' b => okK k k' (.int k (wrapK k (lorK k a b)))
noncomputable def i_xor : IOp := fun k a k' b => okK k k' (.int k (wrapK k (lxorK k a b)))
noncomputable def i_andNot : IOp := fun k a k' b => okK k k' (.int k (wrapK k (landnK k a b)))
noncomputable def i_eql : IOp := fun k a k' b => okK k k' (.bool (eqK a b))
noncomputable def i_neq : IOp := fun k a k' b => okK k k' (.bool (!eqK a b))
noncomputable def i_lss : IOp := fun k a k' b => okK k k' (.bool (ltK a b))
noncomputable def i_leq : IOp := fun k a k' b => okK k k' (.bool (!ltK b a))
noncomputable def i_gtr : IOp := fun k a k' b => okK k k' (.bool (ltK b a))
noncomputable def i_geq : IOp := fun k a k' b => okK k k' (.bool (!ltK a b))
noncomputable def i_shl : IOp := fun k a k' b => if b < 0 then none else some (.int k (wrapK k (Int.mul a (Int.ofNat (Nat.pow 2 (Nat.min b.toNat k.bits))))))
noncomputable def i_shr : IOp := fun k a k' b => if b < 0 then none else some (.int k (Int.fdiv a (Int.ofNat (Nat.pow 2 (Nat.min b.toNat k.bits)))))
noncomputable def i_quo : IOp := fun k a k' b => abin .quo (.int k a) (.int k' b)
noncomputable def i_rem : IOp := fun k a k' b => abin .rem (.int k a) (.int k' b)
noncomputable def intOpK (op : BinOp) (k : IntKind) (a : Int) (k' : IntKind) (b : Int) : Option AV :=
  @BinOp.rec (fun _ => IOp) i_add i_sub i_mul i_quo i_rem i_and i_or i_xor i_shl i_shr i_andNot i_eql i_neq i_lss i_leq i_gtr i_geq op k a k' b

theorem intOpK_eq (op : BinOp) (k : IntKind) (a : Int) (k' : IntKind) (b : Int) : intOpK op k a k' b = abin op (.int k a) (.int k' b) := by
  have pw : ∀ e : Nat, Int.ofNat (2 ^ e) = (2 : Int) ^ e := fun e => by
    have := Int.natCast_pow 2 e
    simp
  have pw' : ∀ e : Nat, Int.ofNat (Nat.pow 2 e) = (2 : Int) ^ e := pw
  have ad : ∀ x y : Int, Int.add x y = x + y := fun _ _ => rfl
  have sb : ∀ x y : Int, Int.sub x y = x - y := fun _ _ => rfl
  have ml : ∀ x y : Int, Int.mul x y = x * y := fun _ _ => rfl
  cases op <;> simp only [intOpK, i_add, i_sub, i_mul, i_quo, i_rem, i_and, i_or, i_xor, i_shl, i_shr, i_andNot, i_eql, i_neq, i_lss, i_leq, i_gtr, i_geq, pw', ad, sb, ml, abin, okK_eq, wrapK_eq, landK_eq, lorK_eq, lxorK_eq, landnK_eq, eqK_eq, ltK_eq, pw] <;> (try rfl)
  case leq => rw [beq_not_lt]
  case geq =>
    have : (decide (a ≥ b)) = !decide (a < b) := by rw [← beq_not_lt]
    rw [this]

end Go.Am

/- The abstract machine against the model: comparisons by type; all operations that leave the heap alone in one lemma. Conditions: those that each lemma names. -/
import Derived.Test.YtmpdpcamgkndnaaGreatDoorAmOps7
import Derived.Laws.StructEq
import Derived.ChangeKeysEq
import Derived.Laws.Pointers
set_option linter.constructorNameAsVariable false
set_option linter.unusedSimpArgs false
set_option linter.unusedVariables false
namespace Go.Am
open Go.RowKit (Below)

section
variable {P : Program} {w0 : World} {ρ : Ren} {X : Frm} {h : Heap} {w : World} {t : List AV} {a : Act} {o : Oper} {v : AV} {op : AOp}

theorem fkEq_int {x y : AV} {b : Bool} (h : fkEq .int x y = some b) : ∃ k m m', x = .int k m ∧ y = .int k m' ∧ b = (m == m') := by
  unfold fkEq at h
  split at h
  · rename_i k m k' m' heq
    split at h
    · rename_i hk; cases h; subst hk; exact ⟨_, _, _, rfl, rfl, rfl⟩
    · cases h
  · rename_i heq; cases heq
  · rename_i heq; cases heq
  · cases h
theorem fkEq_bool {x y : AV} {b : Bool} (h : fkEq .bool x y = some b) : ∃ m m', x = .bool m ∧ y = .bool m' ∧ b = (m == m') := by
  unfold fkEq at h
  split at h
  · rename_i heq; cases heq
  · cases h; exact ⟨_, _, rfl, rfl, rfl⟩
  · rename_i heq; cases heq
  · cases h
theorem fkEq_str {x y : AV} {b : Bool} (h : fkEq .str x y = some b) : ∃ m m', x = .str m ∧ y = .str m' ∧ b = (m == m') := by
  unfold fkEq at h
  split at h
  · rename_i heq; cases heq
  · rename_i heq; cases heq
  · cases h; exact ⟨_, _, rfl, rfl, rfl⟩
  · cases h

theorem flatEq_append : ∀ (ks ks' : List FK) (xs ys : List AV) (b : Bool), flatEq (ks ++ ks') xs ys = some b →
    ∃ b1 b2, flatEq ks (xs.take ks.length) (ys.take ks.length) = some b1 ∧ flatEq ks' (xs.drop ks.length) (ys.drop ks.length) = some b2 ∧ b = (b1 && b2)
  | [], ks', xs, ys, b, h => ⟨true, b, by simp [flatEq], by simpa using h, by simp⟩
  | k :: ks, ks', [], ys, b, h => by simp [flatEq] at h
  | k :: ks, ks', x :: xs, [], b, h => by simp [flatEq] at h
  | k :: ks, ks', x :: xs, y :: ys, b, h => by
    simp only [List.cons_append, flatEq] at h
    cases h1 : fkEq k x y with
    | none => simp [h1] at h
    | some a =>
      cases h2 : flatEq (ks ++ ks') xs ys with
      | none => simp [h1, h2] at h
      | some c =>
        simp only [h1, h2, Option.some.injEq] at h
        obtain ⟨b1, b2, g1, g2, g3⟩ := flatEq_append ks ks' xs ys c h2
        exact ⟨a && b1, b2, by simp [flatEq, h1, g1], by simpa using g2, by rw [← h, g3, Bool.and_assoc]⟩

theorem flatEq_length : ∀ (ks : List FK) (xs ys : List AV) (b : Bool), flatEq ks xs ys = some b → xs.length = ks.length ∧ ys.length = ks.length
  | [], [], [], _, _ => ⟨rfl, rfl⟩
  | k :: ks, x :: xs, y :: ys, b, h => by
    simp only [flatEq] at h
    cases h1 : fkEq k x y with
    | none => simp [h1] at h
    | some a =>
      cases h2 : flatEq ks xs ys with
      | none => simp [h1, h2] at h
      | some c =>
        obtain ⟨g1, g2⟩ := flatEq_length ks xs ys c h2
        simp [g1, g2]
  | [], [], _ :: _, _, h => by simp [flatEq] at h
  | [], _ :: _, _, _, h => by simp [flatEq] at h
  | _ :: _, [], _, _, h => by simp [flatEq] at h
  | _ :: _, _ :: _, [], _, h => by simp [flatEq] at h

theorem flatK_step {d : Nat} {ty : TypeId} {ks : List FK} (h : flatK P (d + 1) ty = some ks) : flatStep P (flatK P d) ty = some ks ∧ Tp.size P ty = some ks.length := by
  simp only [flatK] at h
  cases hs : flatStep P (flatK P d) ty with
  | none => simp [hs] at h
  | some l =>
    simp only [hs] at h
    split at h
    · rename_i hc; cases h; exact ⟨rfl, hc⟩
    · cases h

/-- What flatK says of a type. -/
theorem flatK_agg {d : Nat} {ty : TypeId} {ks : List FK} (h : flatK P d ty = some ks) : ∃ b, Tp.agg P ty = some b ∧ (b = false → ks.length = 1) := by
  cases d with
  | zero => simp [flatK] at h
  | succ d =>
    have h := (flatK_step h).1
    unfold flatStep at h
    unfold Tp.agg
    cases hu : P.underlying ty with
    | none => simp [hu] at h
    | some dd =>
      cases dd <;> simp only [hu] at h <;> (try cases h) <;> first | exact ⟨false, rfl, fun _ => rfl⟩ | exact ⟨true, rfl, fun hh => by cases hh⟩

def valG (g : Bool) (xs : List Value) : Value := if g then .agg xs.toArray else xs.getD 0 undef

theorem rPart {ty : TypeId} {b : Bool} {n : Nat} {cs : Array Value} {off : Nat} (hb : Tp.agg P ty = some b) (hs : Tp.size P ty = some n) (h1 : b = false → n = 1 ∧ off < cs.size) :
    (part ty cs off).run P w = .ok (valG b ((cs.toList.drop off).take n)) w := by
  unfold part
  cases b with
  | true =>
    simp only [Sem.run_bind, rAgg hb, Result.andThen_ok, if_true, rSize hs, Sem.run_pure, valG]
    congr 2
    apply Array.ext'
    simp [List.extract_eq_take_drop]
  | false =>
    obtain ⟨h2, h3⟩ := h1 rfl
    subst h2
    have hc : cs[off]? = some cs[off] := by simp [h3]
    have hv : valG false ((cs.toList.drop off).take 1) = cs[off] := by
      simp [valG, List.getD, List.getElem?_drop, h3]
    rw [hv]
    simp only [Sem.run_bind, rAgg hb, Result.andThen_ok, Bool.false_eq_true, if_false, hc, Sem.run_pure]

theorem size_cells {ty : TypeId} {n : Nat} (h : Tp.size P ty = some n) : P.cellsOf ty = n ∧ ∃ i, P.info? ty = some i := by
  unfold Tp.size at h
  unfold Program.cellsOf
  cases hi : P.info? ty with
  | none => simp [hi] at h
  | some i => simp [hi] at h; simp [h]

/-- The statement for one type. -/
def EqOk (P : Program) (ρ : Ren) (w : World) (D : Nat) (ty : TypeId) (ks : List FK) : Prop := ∀ (xa ya : List AV) (xs ys : List Value) (b : Bool) (g : Bool), VRs ρ xa xs → VRs ρ ya ys → flatEq ks xa ya = some b →
  Tp.agg P ty = some g → (Op.equalIn D ty (valG g xs) (valG g ys)).run P w = .ok b w

theorem eq_step {D : Nat} {ty : TypeId} {ks ks' : List FK} {xa ya : List AV} {xs ys : Array Value} {off : Nat} {b : Bool} (hE : EqOk P ρ w D ty ks) {d : Nat} (hk : flatK P d ty = some ks) (hsz : Tp.size P ty = some ks.length)
    (hx : VRs ρ xa xs.toList) (hy : VRs ρ ya ys.toList) (hf : flatEq (ks ++ ks') (xa.drop off) (ya.drop off) = some b) :
    ∃ u v b1 b2, (part ty xs off).run P w = .ok u w ∧ (part ty ys off).run P w = .ok v w ∧ (Op.equalIn D ty u v).run P w = .ok b1 w ∧ flatEq ks' (xa.drop (off + ks.length)) (ya.drop (off + ks.length)) = some b2 ∧ b = (b1 && b2) := by
  obtain ⟨g, hg, hg1⟩ := flatK_agg hk
  obtain ⟨b1, b2, h1, h2, h3⟩ := flatEq_append ks ks' _ _ _ hf
  have hl := flatEq_length _ _ _ _ hf
  have lx := hx.length
  have ly := hy.length
  simp only [List.length_append, List.length_drop, Array.length_toList] at hl lx ly
  refine ⟨_, _, b1, b2, rPart hg hsz ?_, rPart hg hsz ?_, hE _ _ _ _ b1 g ((hx.drop off).take _) ((hy.drop off).take _) h1 hg, ?_, h3⟩
  · intro h; have := hg1 h; exact ⟨this, by omega⟩
  · intro h; have := hg1 h; exact ⟨this, by omega⟩
  · simpa [List.drop_drop, Nat.add_comm] using h2

theorem eq_fields {D d : Nat} (hrec : ∀ ty ks, flatK P d ty = some ks → EqOk P ρ w D ty ks ∧ Tp.size P ty = some ks.length) {xa ya : List AV} {xs ys : Array Value} (hx : VRs ρ xa xs.toList) (hy : VRs ρ ya ys.toList) :
    ∀ (fs : List Field) (n : Nat) (ks : List FK) (b : Bool), flatFs (flatK P d) fs n = some ks → flatEq ks (xa.drop n) (ya.drop n) = some b → (Op.eqFields D xs ys fs).run P w = .ok b w
  | [], n, ks, b, h, hf => by
    simp only [flatFs, Option.some.injEq] at h
    subst h
    unfold flatEq at hf
    split at hf
    · cases hf; simp [Op.eqFields]
    · rename_i heq _ _; cases heq
    · cases hf
  | f :: fs, n, ks, b, h, hf => by
    simp only [flatFs] at h
    cases hk : flatK P d f.type with
    | none => simp [hk] at h
    | some l =>
      simp only [hk] at h
      split at h
      · rename_i hc
        cases hr : flatFs (flatK P d) fs (n + l.length) with
        | none => simp [hr] at h
        | some l' =>
          simp only [hr, Option.map_some, Option.some.injEq] at h
          subst h
          obtain ⟨hE, hS⟩ := hrec _ _ hk
          obtain ⟨u, v, b1, b2, g1, g2, g3, g4, g5⟩ := eq_step (off := n) hE hk hS hx hy hf
          have ih := eq_fields hrec hx hy fs (n + l.length) l' b2 hr g4
          simp only [Op.eqFields, hc.1, ne_eq, not_false_eq_true, if_true, hc.2, Sem.run_bind, g1, g2, g3, Result.andThen_ok, Sem.run_ite, Sem.run_pure, ih]
          cases b1 <;> simp [g5]
      · cases h

theorem eq_items {D d n : Nat} {e : TypeId} {l : List FK} (hE : EqOk P ρ w D e l) (hk : flatK P d e = some l) (hS : Tp.size P e = some l.length) {xa ya : List AV} {xs ys : Array Value} (hx : VRs ρ xa xs.toList) (hy : VRs ρ ya ys.toList) :
    ∀ (m s : Nat) (b : Bool), flatEq (List.replicate m l).flatten (xa.drop (s * l.length)) (ya.drop (s * l.length)) = some b → (Op.eqItems D e l.length xs ys (List.range' s m)).run P w = .ok b w
  | 0, s, b, hf => by
    simp only [List.replicate_zero, List.flatten_nil] at hf
    unfold flatEq at hf
    split at hf
    · cases hf; simp [Op.eqItems]
    · rename_i heq _ _; cases heq
    · cases hf
  | m + 1, s, b, hf => by
    rw [List.replicate_succ, List.flatten_cons] at hf
    obtain ⟨u, v, b1, b2, g1, g2, g3, g4, g5⟩ := eq_step (off := s * l.length) hE hk hS hx hy hf
    have ih := eq_items (n := n) hE hk hS hx hy m (s + 1) b2 (by rw [Nat.succ_mul]; exact g4)
    rw [List.range'_succ]
    simp only [Op.eqItems, Sem.run_bind, g1, g2, g3, Result.andThen_ok, Sem.run_ite, Sem.run_pure, ih]
    cases b1 <;> simp [g5]

theorem eqK_sound : ∀ (d D : Nat) (ty : TypeId) (ks : List FK), flatK P d ty = some ks → EqOk P ρ w (D + d) ty ks
  | 0, D, ty, ks, h => by simp [flatK] at h
  | d + 1, D, ty, ks, h => by
    intro xa ya xs ys b g hx hy hf hg
    obtain ⟨hst, hsz⟩ := flatK_step h
    have hrec : ∀ ty ks, flatK P d ty = some ks → EqOk P ρ w (D + d) ty ks ∧ Tp.size P ty = some ks.length := fun ty ks hk =>
      ⟨eqK_sound d D ty ks hk, by
        cases d with
        | zero => simp [flatK] at hk
        | succ d => exact (flatK_step hk).2⟩
    have single : ∀ k, ks = [k] → ∃ x y u v, xa = [x] ∧ ya = [y] ∧ xs = [u] ∧ ys = [v] ∧ VR ρ x u ∧ VR ρ y v ∧ fkEq k x y = some b := by
      intro k hk
      subst hk
      have hl := flatEq_length _ _ _ _ hf
      match xa, ya, hl with
      | [x], [y], _ =>
        match xs, ys, hx, hy with
        | [u], [v], hx, hy =>
          simp only [VRs] at hx hy
          refine ⟨x, y, u, v, rfl, rfl, rfl, rfl, hx.1, hy.1, ?_⟩
          simp only [flatEq] at hf
          cases hq : fkEq k x y with
          | none => simp [hq] at hf
          | some c => simp only [hq, Option.some.injEq, Bool.and_true] at hf; rw [hf]
    show (Op.equalIn (D + d + 1) ty (valG g xs) (valG g ys)).run P w = .ok b w
    unfold flatStep at hst
    unfold Tp.agg at hg
    split at hst
    · rename_i hu
      cases hst
      rw [hu] at hg; cases hg
      obtain ⟨x, y, u, v, rfl, rfl, rfl, rfl, h1, h2, h3⟩ := single _ rfl
      obtain ⟨m, m', rfl, rfl, rfl⟩ := fkEq_bool h3
      rw [vBool h1, vBool h2]
      exact run_equalIn_bool' w _ _ _ _ hu
    · rename_i kk hu
      cases hst
      rw [hu] at hg; cases hg
      obtain ⟨x, y, u, v, rfl, rfl, rfl, rfl, h1, h2, h3⟩ := single _ rfl
      obtain ⟨k, m, m', rfl, rfl, rfl⟩ := fkEq_int h3
      rw [vInt h1, vInt h2]
      exact run_equalIn_int w _ _ _ _ _ _ hu
    · rename_i hu
      cases hst
      rw [hu] at hg; cases hg
      obtain ⟨x, y, u, v, rfl, rfl, rfl, rfl, h1, h2, h3⟩ := single _ rfl
      obtain ⟨m, m', rfl, rfl, rfl⟩ := fkEq_str h3
      obtain ⟨s, rfl, e1⟩ := vStr h1
      obtain ⟨s', rfl, e2⟩ := vStr h2
      have := run_equalIn_string (P := P) w (D + d) ty s s' hu
      rw [ByteArray.toList_eq, ByteArray.toList_eq, e1, e2] at this
      exact this
    · rename_i fs hu
      rw [hu] at hg; cases hg
      split at hst
      · cases hst
      · rename_i hstood
        have hfo : P.fieldsOf ty = fs := by simp [Program.fieldsOf, hu]
        have := run_equalIn_struct (P := P) w (D + d) ty xs.toArray ys.toArray (by rw [hfo]; exact hu) (by simpa using hstood)
        simp only [valG, if_true, this, hfo]
        exact eq_fields hrec (xs := xs.toArray) (ys := ys.toArray) (by simpa using hx) (by simpa using hy) _ 0 ks b hst (by simpa using hf)
    · rename_i len e hu
      rw [hu] at hg; cases hg
      cases hk : flatK P d e with
      | none => simp [hk] at hst
      | some l =>
        simp only [hk, Option.map_some, Option.some.injEq] at hst
        subst hst
        obtain ⟨hE, hS⟩ := hrec _ _ hk
        obtain ⟨hc, i, hi⟩ := size_cells hS
        have := run_equalIn_array (P := P) w (D + d) xs.toArray ys.toArray hu hi
        simp only [valG, if_true, this, hc, List.range_eq_range']
        exact eq_items (n := len) hE hk hS (xs := xs.toArray) (ys := ys.toArray) (by simpa using hx) (by simpa using hy) len 0 b (by simpa using hf)
    · cases hst

section
variable {d : Nat} {ty e ke : TypeId}
theorem eqi_p1 (hu : P.underlying ty = some (.pointer e)) (q : Option Addr) : (Op.equalIn (d + 1) ty (.pointer none) (.pointer q)).run P w = .ok q.isNone w := by simp [Op.equalIn, rUnderlying hu]
theorem eqi_p2 (hu : P.underlying ty = some (.pointer e)) (q : Addr) : (Op.equalIn (d + 1) ty (.pointer (some q)) (.pointer none)).run P w = .ok false w := by simp [Op.equalIn, rUnderlying hu]
theorem eqi_p3 (hu : P.underlying ty = some (.pointer e)) {n : Nat} (hsz : Tp.size P e = some (n + 1)) (r x y : Nat) : (Op.equalIn (d + 1) ty (.pointer (some ⟨r, x, none⟩)) (.pointer (some ⟨r, y, none⟩))).run P w = .ok (x == y) w := by
  have hb : ((⟨r, x, none⟩ : Addr) == ⟨r, y, none⟩) = (x == y) := by
    rw [Bool.eq_iff_iff]; simp
  simp [Op.equalIn, rUnderlying hu, rSize hsz, sameAddr, hb]
theorem eqi_s1 (hu : P.underlying ty = some (.slice e)) (q : Option Addr) (l c l' c' : Nat) : (Op.equalIn (d + 1) ty (.slice none l c) (.slice q l' c')).run P w = .ok q.isNone w := by simp [Op.equalIn, rUnderlying hu]
theorem eqi_s2 (hu : P.underlying ty = some (.slice e)) (q : Addr) (l c l' c' : Nat) : (Op.equalIn (d + 1) ty (.slice (some q) l c) (.slice none l' c')).run P w = .ok false w := by simp [Op.equalIn, rUnderlying hu]
theorem eqi_m1 (hu : P.underlying ty = some (.map ke e)) (q : Option Nat) : (Op.equalIn (d + 1) ty (.map none) (.map q)).run P w = .ok q.isNone w := by simp [Op.equalIn, rUnderlying hu]
theorem eqi_m2 (hu : P.underlying ty = some (.map ke e)) (q : Nat) : (Op.equalIn (d + 1) ty (.map (some q)) (.map none)).run P w = .ok false w := by simp [Op.equalIn, rUnderlying hu]
theorem eqi_f1 {ps rs : Array TypeId} {vr : Bool} (hu : P.underlying ty = some (.func ps rs vr)) : (Op.equalIn (d + 1) ty .nilFunc .nilFunc).run P w = .ok true w := by simp [Op.equalIn, rUnderlying hu]
theorem eqi_f2 {ps rs : Array TypeId} {vr : Bool} (hu : P.underlying ty = some (.func ps rs vr)) (f : Fn) (a b : Array Value) : (Op.equalIn (d + 1) ty .nilFunc (.func f a b)).run P w = .ok false w := by simp [Op.equalIn, rUnderlying hu]
theorem eqi_f3 {ps rs : Array TypeId} {vr : Bool} (hu : P.underlying ty = some (.func ps rs vr)) (f : Fn) (a b : Array Value) : (Op.equalIn (d + 1) ty (.func f a b) .nilFunc).run P w = .ok false w := by simp [Op.equalIn, rUnderlying hu]
end

/-- Two values that are no numbers, no strings, are compared. -/
theorem y_eqV {ty ty' : TypeId} {bop : BinOp} {x y : Operand} {neg b : Bool} (hop : bop = if neg then .neq else .eql) (ho : o.op = .binOp bop ty x y ty') {u v : Value} (e1 : a.eval x = u) (e2 : a.eval y = v)
    (h1 : (eqGuard bop ty x y u v).run P w = .ok () w) (h2 : (Op.equalIn (9999 + 1) ty u v).run P w = .ok b w)
    (h3 : ∀ bop : BinOp, (bop = .eql → binOp bop ty u v = (do pure (.bool (← Op.equal ty u v)))) ∧ (bop = .neq → binOp bop ty u v = (do pure (.bool (!(← Op.equal ty u v)))))) : Yv P ρ a w o (.bool (if neg then !b else b)) := by
  have h2' : (Op.equal ty u v).run P w = .ok b w := h2
  refine ⟨_, ?_, rBool _⟩
  cases neg
  · simp only [Bool.false_eq_true, if_false] at hop
    simp only [execOp, ho, e1, e2, Sem.run_bind, h1, Result.andThen_ok, (h3 bop).1 hop, h2', Sem.run_pure, Bool.false_eq_true, if_false]
  · simp only [if_true] at hop
    simp only [execOp, ho, e1, e2, Sem.run_bind, h1, Result.andThen_ok, (h3 bop).2 hop, h2', Sem.run_pure, if_true]

theorem y_eqAgg {ty ty' : TypeId} {bop : BinOp} {x y : Operand} {xa ya : AV} {neg b : Bool} {k : EqK} (hop : bop = if neg then .neq else .eql) (ho : o.op = .binOp bop ty x y ty') (hag : Tp.agg P ty = some true)
    (hk : (if P.eqGuardType P.depth ty = false then (flatK P 8 ty).map EqK.flat else none) = some k)
    (hx : VR ρ xa (a.eval x)) (hy : VR ρ ya (a.eval y)) (hq : aeq k xa ya = some b) : Yv P ρ a w o (.bool (if neg then !b else b)) := by
  split at hk
  · rename_i hgd
    cases hkk : flatK P 8 ty with
    | none => simp [hkk] at hk
    | some ks =>
      simp only [hkk, Option.map_some, Option.some.injEq] at hk
      subst hk
      cases xa <;> (try (simp only [aeq] at hq; cases hq; done))
      cases ya <;> (try (simp only [aeq] at hq; cases hq; done))
      simp only [aeq] at hq
      obtain ⟨cs, e1, h1⟩ := vAgg hx
      obtain ⟨cs', e2, h2⟩ := vAgg hy
      have := eqK_sound (P := P) (w := w) (ρ := ρ) 8 9992 ty ks hkk _ _ _ _ b true h1 h2 hq hag
      refine y_eqV hop ho e1 e2 (run_eqGuard_agg w bop ty x y cs cs' hgd) ?_ fun bop => ⟨fun h => by subst h; rfl, fun h => by subst h; rfl⟩
      simpa only [valG, if_true, Array.toArray_toList] using this
  · cases hk

theorem y_eq {ty ty' : TypeId} {bop : BinOp} {x y : Operand} {xa ya : AV} {neg b : Bool} {k : EqK} (hop : bop = if neg then .neq else .eql) (ho : o.op = .binOp bop ty x y ty') (hk : cEq P ty = some k)
    (hx : VR ρ xa (a.eval x)) (hy : VR ρ ya (a.eval y)) (hq : aeq k xa ya = some b) : Yv P ρ a w o (.bool (if neg then !b else b)) := by
  have g0 : ∀ {u v : Value}, u ≠ .nilIface → (∀ c, u ≠ .agg c) → (eqGuard bop ty x y u v).run P w = .ok () w := fun h1 h2 => eqGuard_pass h1 h2
  unfold cEq at hk
  split at hk
  · rename_i hu
    cases hk
    cases xa <;> (try (simp only [aeq] at hq; cases hq; done))
    cases ya <;> (try (simp only [aeq] at hq; cases hq; done))
    simp only [aeq, Option.some.injEq] at hq
    subst hq
    exact y_eqV hop ho (vBool hx) (vBool hy) (g0 (by simp) (by simp)) (run_equalIn_bool' w _ _ _ _ hu) fun bop => ⟨fun h => by subst h; rfl, fun h => by subst h; rfl⟩
  · rename_i e hu
    split at hk
    · rename_i n hsz
      cases hk
      cases xa <;> (try (simp only [aeq] at hq; cases hq; done))
      cases ya <;> (try (simp only [aeq] at hq; cases hq; done))
      rename_i p q
      cases p with
      | none =>
        have e1 := vNilPtr hx
        simp only [aeq, Option.some.injEq] at hq
        subst hq
        cases q with
        | none => exact y_eqV hop ho e1 (vNilPtr hy) (g0 (by simp) (by simp)) (eqi_p1 hu _) fun bop => ⟨fun h => by subst h; rfl, fun h => by subst h; rfl⟩
        | some q =>
          obtain ⟨_, _, e2⟩ := vPtr hy
          exact y_eqV hop ho e1 e2 (g0 (by simp) (by simp)) (eqi_p1 hu _) fun bop => ⟨fun h => by subst h; rfl, fun h => by subst h; rfl⟩
      | some p =>
        obtain ⟨pp, hp, e1⟩ := vPtr hx
        cases q with
        | none =>
          simp only [aeq, Option.some.injEq] at hq
          subst hq
          exact y_eqV hop ho e1 (vNilPtr hy) (g0 (by simp) (by simp)) (eqi_p2 hu _) fun bop => ⟨fun h => by subst h; rfl, fun h => by subst h; rfl⟩
        | some q =>
          simp only [aeq] at hq
          split at hq
          · rename_i hpq
            cases hq
            obtain ⟨qq, hq', e2⟩ := vPtr hy
            rw [← hpq, hp] at hq'
            cases hq'
            have hb : (pp.2.1 + p.2 == pp.2.1 + q.2) = (p.2 == q.2) := by rw [Bool.eq_iff_iff]; simp
            have h2 := eqi_p3 (P := P) (w := w) (d := 9999) hu hsz pp.1 (pp.2.1 + p.2) (pp.2.1 + q.2)
            rw [hb] at h2
            exact y_eqV hop ho e1 e2 (g0 (by simp) (by simp)) h2 fun bop => ⟨fun h => by subst h; rfl, fun h => by subst h; rfl⟩
          · cases hq
    · cases hk
  · rename_i e hu
    cases hk
    cases xa <;> (try (simp only [aeq] at hq; cases hq; done))
    cases ya <;> (try (simp only [aeq] at hq; cases hq; done))
    rename_i p l1 c1 x1 q l2 c2 x2
    cases p with
    | none =>
      obtain ⟨_, _, e1⟩ := vNilSl hx
      simp only [aeq, Option.some.injEq] at hq
      subst hq
      cases q with
      | none =>
        obtain ⟨_, _, e2⟩ := vNilSl hy
        exact y_eqV hop ho e1 e2 (g0 (by simp) (by simp)) (eqi_s1 hu _ _ _ _ _) fun bop => ⟨fun h => by subst h; rfl, fun h => by subst h; rfl⟩
      | some q =>
        obtain ⟨_, _, _, _, e2, _⟩ := vSl hy
        exact y_eqV hop ho e1 e2 (g0 (by simp) (by simp)) (eqi_s1 hu _ _ _ _ _) fun bop => ⟨fun h => by subst h; rfl, fun h => by subst h; rfl⟩
    | some p =>
      obtain ⟨_, _, _, _, e1, _⟩ := vSl hx
      cases q with
      | none =>
        simp only [aeq, Option.some.injEq] at hq
        subst hq
        obtain ⟨_, _, e2⟩ := vNilSl hy
        exact y_eqV hop ho e1 e2 (g0 (by simp) (by simp)) (eqi_s2 hu _ _ _ _ _) fun bop => ⟨fun h => by subst h; rfl, fun h => by subst h; rfl⟩
      | some q => simp only [aeq] at hq; cases hq
  · rename_i ke e hu
    cases hk
    cases xa <;> (try (simp only [aeq] at hq; cases hq; done))
    cases ya <;> (try (simp only [aeq] at hq; cases hq; done))
    rename_i p q
    cases p with
    | none =>
      have e1 := vNilMap hx
      simp only [aeq, Option.some.injEq] at hq
      subst hq
      cases q with
      | none => exact y_eqV hop ho e1 (vNilMap hy) (g0 (by simp) (by simp)) (eqi_m1 hu _) fun bop => ⟨fun h => by subst h; rfl, fun h => by subst h; rfl⟩
      | some q =>
        obtain ⟨_, _, e2⟩ := vMap hy
        exact y_eqV hop ho e1 e2 (g0 (by simp) (by simp)) (eqi_m1 hu _) fun bop => ⟨fun h => by subst h; rfl, fun h => by subst h; rfl⟩
    | some p =>
      obtain ⟨_, _, e1⟩ := vMap hx
      cases q with
      | none =>
        simp only [aeq, Option.some.injEq] at hq
        subst hq
        exact y_eqV hop ho e1 (vNilMap hy) (g0 (by simp) (by simp)) (eqi_m2 hu _) fun bop => ⟨fun h => by subst h; rfl, fun h => by subst h; rfl⟩
      | some q => simp only [aeq] at hq; cases hq
  · rename_i ps rs vr hu
    cases hk
    cases xa with
    | fn f cs =>
      obtain ⟨_, e1, _⟩ := vFn hx
      cases ya with
      | nilf =>
        simp only [aeq, Option.some.injEq] at hq
        subst hq
        exact y_eqV hop ho e1 (vNilF hy) (g0 (by simp) (by simp)) (eqi_f3 hu _ _ _) fun bop => ⟨fun h => by subst h; rfl, fun h => by subst h; rfl⟩
      | _ => simp only [aeq] at hq; cases hq
    | nilf =>
      have e1 := vNilF hx
      cases ya with
      | fn f cs =>
        obtain ⟨_, e2, _⟩ := vFn hy
        simp only [aeq, Option.some.injEq] at hq
        subst hq
        exact y_eqV hop ho e1 e2 (g0 (by simp) (by simp)) (eqi_f2 hu _ _ _) fun bop => ⟨fun h => by subst h; rfl, fun h => by subst h; rfl⟩
      | nilf =>
        simp only [aeq, Option.some.injEq] at hq
        subst hq
        exact y_eqV hop ho e1 (vNilF hy) (g0 (by simp) (by simp)) (eqi_f1 hu) fun bop => ⟨fun h => by subst h; rfl, fun h => by subst h; rfl⟩
      | _ => simp only [aeq] at hq; cases hq
    | _ => cases ya <;> simp only [aeq] at hq <;> cases hq
  · rename_i fs hu
    exact y_eqAgg hop ho (by unfold Tp.agg; simp [hu]) hk hx hy hq
  · rename_i n e hu
    exact y_eqAgg hop ho (by unfold Tp.agg; simp [hu]) hk hx hy hq
  · cases hk

end
end Go.Am

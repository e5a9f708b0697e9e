/- The abstract machine against the model: the rest of the operations that leave the heap alone, and all of them in one lemma. Conditions: those that each lemma names. -/
import Derived.Test.YtmpdpcamgkndnaaGreatDoorAmOps6
import Derived.Lib.Bytealg
import Derived.KernelRfl
set_option linter.constructorNameAsVariable false
set_option linter.unusedSimpArgs false
set_option linter.unusedVariables false
namespace Go.Am
open Go.RowKit (Below)

theorem cmpBytes_eq : ∀ x y : List UInt8, cmpBytes x y = Lib.compareBytes x y
  | [], [] => rfl
  | [], _ :: _ => rfl
  | _ :: _, [] => rfl
  | a :: x, b :: y => by unfold cmpBytes Lib.compareBytes; rw [cmpBytes_eq x y]

section
variable {P : Program} {w0 : World} {ρ : Ren} {X : Frm} {h : Heap} {w : World} {t : List AV} {a : Act} {o : Oper} {v : AV} {op : AOp}

theorem rLoadBytes : ∀ (ns : List Int) (r x : Nat) (acc : ByteArray), (∀ j n, ns[j]? = some n → w.cell? ⟨r, x + j, none⟩ = some (.int .u8 n)) →
    ∃ s : ByteArray, (Extern.Bytes.loadBytes ⟨r, x, none⟩ ns.length acc).run P w = .ok s w ∧ s.data.toList = acc.data.toList ++ ns.map fun n => UInt8.ofNat n.toNat
  | [], r, x, acc, _ => ⟨acc, by simp [Extern.Bytes.loadBytes], by simp⟩
  | n :: ns, r, x, acc, hc => by
    have h0 := hc 0 n rfl
    obtain ⟨s, h1, h2⟩ := rLoadBytes ns r (x + 1) (acc.push n.toNat.toUInt8) fun j m hj => by
      have := hc (j + 1) m (by simpa using hj)
      rwa [show x + 1 + j = x + (j + 1) by omega]
    refine ⟨s, ?_, ?_⟩
    · simp only [List.length_cons, Extern.Bytes.loadBytes, Sem.run_bind]
      rw [show (load (⟨r, x, none⟩ : Addr)).run P w = .ok (.int .u8 n) w from rLoad (by simpa using h0) _]
      simp only [Result.andThen_ok, add_none]
      exact h1
    · rw [h2]; simp [ByteArray.push, Nat.toUInt8]

theorem rBytesOf (H : HR P w0 ρ X h w) {x : AV} {u : Value} (hx : VR ρ x u) {l : List UInt8} (hl : h.slBytes x = some l) : ∃ s : ByteArray, (Extern.Bytes.bytesOf u).run P w = .ok s w ∧ s.data.toList = l := by
  unfold Heap.slBytes at hl
  split at hl
  · rename_i q n c ex
    cases hc : h.slCells 1 (.sl q n c ex) with
    | none => simp [hc] at hl
    | some cs =>
      simp only [hc, Option.bind_some] at hl
      cases q with
      | none =>
        obtain ⟨h1, h2, h3⟩ := vNilSl hx
        simp only [Heap.slCells, Option.some.injEq] at hc
        subst hc
        simp only [toBytes, Option.some.injEq] at hl
        subst hl
        exact ⟨.empty, by rw [h3]; rfl, rfl⟩
      | some q =>
        obtain ⟨p, y, c', h1, h2, h3, h4, h5⟩ := vSl hx
        simp only [Heap.slCells, Nat.mul_one] at hc
        split at hc
        · rename_i h0
          cases hc
          simp only [toBytes, Option.some.injEq] at hl
          subst hl
          subst h0
          exact ⟨.empty, by rw [h2]; rfl, rfl⟩
        · rename_i h0
          obtain ⟨p', vs, g1, g2, g3, g4⟩ := H.ldN (n := q.1) (o := q.2) hc
          rw [h1] at g1; cases g1
          have hy : y = p.2.1 + q.2 := by
            rcases h4 with h4 | h4
            · exact h4
            · unfold exR at h5
              cases ex with
              | none => simp only at h5; omega
              | some es => simp only at h5; omega
          subst hy
          obtain ⟨ns, k1, k2⟩ := toBytes_rel _ _ _ g4 hl
          subst k1
          obtain ⟨s, m1, m2⟩ := rLoadBytes (P := P) (w := w) ns p.1 (p.2.1 + q.2) .empty fun j m hj => g3 j _ (by simp [hj])
          refine ⟨s, ?_, by rw [m2, k2]; rfl⟩
          rw [h2]
          have : ns.length = n := by simpa using g2
          rw [← this]
          exact m1
  · cases hl

theorem ext_next1 : Extern.allNextRows.lookup "internal/bytealg.Compare" = none := by kernel_rfl
theorem ext_next2 : Extern.allNextRows.lookup "" = none := by kernel_rfl
theorem ext_gen : Extern.allGenericRows.lookup "internal/bytealg.Compare" = none := by kernel_rfl
theorem ext_typed : Extern.allTypedRows.lookup "internal/bytealg.Compare" = none := by kernel_rfl
theorem ext_rows : Extern.allRows.lookup "internal/bytealg.Compare" = some Extern.BytealgCompare.compare := by kernel_rfl

theorem rCmp {f : Nat} {fn : Func} (hf : P.funcs[f]? = some fn) (hb : fn.body.isSome = false) (hn : fn.name = "internal/bytealg.Compare" ∧ fn.origin = "") {u u' : Value} {s s' : ByteArray}
    (h1 : (Extern.Bytes.bytesOf u).run P w = .ok s w) (h2 : (Extern.Bytes.bytesOf u').run P w = .ok s' w) :
    (callFunc f #[u, u']).run P w = .ok (.value (.int .i64 (cmpBytes s.data.toList s'.data.toList))) w := by
  have hbn : fn.body.isNone = true := by cases h : fn.body <;> simp_all
  have e1 : Extern.findNext fn = none := by
    unfold Extern.findNext
    simp only [hn.1, hn.2, ext_next1, ext_next2]
    rfl
  have e2 : Extern.find fn = some Extern.BytealgCompare.compare := by
    unfold Extern.find
    simp only [hn.1, hn.2, ext_gen, ext_typed, ext_rows]
    rfl
  unfold callFunc
  simp only [Sem.run_bind, rProgram, Result.andThen_ok, hf]
  have hne : (fn.name == "runtime.NumGoroutine") = false := by rw [hn.1]; decide
  simp only [hne, Bool.false_eq_true, if_false, hbn, if_true, e1, e2]
  have hc : (Extern.BytealgCompare.compare #[u, u']).run P w = .ok (.int .i64 (cmpBytes s.data.toList s'.data.toList)) w := by
    change Sem.run P (do pure (goInt (Extern.BytealgCompare.cmp (← Extern.Bytes.bytesOf u) (← Extern.Bytes.bytesOf u')))) w = _
    simp only [Sem.run_bind, h1, h2, Result.andThen_ok, Sem.run_pure, Lib.cmp_eq, cmpBytes_eq]
    rfl
  simp [mark, Sem.run, hc]

theorem y_cmp (H : HR P w0 ρ X h w) {c : Call} {f : Nat} {fn : Func} {x y : Operand} {xa ya : AV} {l l' : List UInt8} (ho : o.op = .call c) (hcal : c.callee = .value (.func f)) (hargs : c.args.toList = [x, y])
    (hf : P.funcs[f]? = some fn) (hb : fn.body.isSome = false) (hn : fn.name = "internal/bytealg.Compare" ∧ fn.origin = "") (hx : VR ρ xa (a.eval x)) (hy : VR ρ ya (a.eval y))
    (hl : h.slBytes xa = some l) (hl' : h.slBytes ya = some l') : Yv P ρ a w o (.int .i64 (cmpBytes l l')) := by
  obtain ⟨s, h1, h2⟩ := rBytesOf (P := P) H hx hl
  obtain ⟨s', h1', h2'⟩ := rBytesOf (P := P) H hy hl'
  have hr := rCmp (P := P) hf hb hn h1 h1'
  rw [h2, h2'] at hr
  have hargs' : c.args = #[x, y] := by
    apply Array.ext'
    simpa using hargs
  refine ⟨_, ?_, rInt _ _⟩
  have hev : a.eval (.func f) = .func (.func f) #[] #[] := rfl
  simp [execOp, ho, resolve, hcal, hargs', hev, Deferred.ofValue, invoke, hr]

/-! Lengths -/
theorem argTy {ts : Array TypeId} {d : TypeDesc} (h : (ts[0]?).bind P.underlying = some d) : ∃ ty, ts[0]? = some ty ∧ P.underlying ty = some d := by
  cases ht : ts[0]? with
  | none => simp [ht] at h
  | some ty => simp only [ht, Option.bind_some] at h; exact ⟨ty, rfl, h⟩

theorem execBuiltin {c : Call} {b : Builtin} (ho : o.op = .call c) (hcal : c.callee = .builtin b) :
    (execOp a.eval o).run P w = (builtin b c.argTypes o.type (c.args.map fun | .const _ => true | _ => false) (c.args.map a.eval)).run P w := by
  simp only [execOp, ho, resolve, hcal, Sem.run_bind, Sem.run_pure, Result.andThen_ok, invoke]
  rfl

theorem arr_one {α : Type} {xs : Array α} {x : α} (h : xs.toList = [x]) : xs = #[x] := by apply Array.ext'; simpa using h
theorem arr_two {α : Type} {xs : Array α} {x y : α} (h : xs.toList = [x, y]) : xs = #[x, y] := by apply Array.ext'; simpa using h

theorem y_lenSl {c : Call} {x : Operand} {d : TypeDesc} {q : Option (Nat × Nat)} {n cap : Nat} {ex : Option Nat} (ho : o.op = .call c) (hcal : c.callee = .builtin .len) (hargs : c.args.toList = [x])
    (hd : (c.argTypes[0]?).bind P.underlying = some d) (hs : ∃ e, d = .slice e) (hx : VR ρ (.sl q n cap ex) (a.eval x)) : Yv P ρ a w o (.int .i64 n) := by
  obtain ⟨ty, h1, h2⟩ := argTy hd
  obtain ⟨e, rfl⟩ := hs
  refine ⟨_, ?_, rInt _ _⟩
  rw [execBuiltin ho hcal, arr_one hargs]
  cases q with
  | none =>
    obtain ⟨g1, g2, g3⟩ := vNilSl hx
    simp [builtin, Builtin.len_, h1, rUnderlying h2, g3, g1, goInt]
  | some q =>
    obtain ⟨p, y, c', g1, g2, g3⟩ := vSl hx
    simp [builtin, Builtin.len_, h1, rUnderlying h2, g2, goInt]

theorem y_lenStr {c : Call} {x : Operand} {l : List UInt8} (ho : o.op = .call c) (hcal : c.callee = .builtin .len) (hargs : c.args.toList = [x])
    (hd : (c.argTypes[0]?).bind P.underlying = some .string) (hx : VR ρ (.str l) (a.eval x)) : Yv P ρ a w o (.int .i64 l.length) := by
  obtain ⟨ty, h1, h2⟩ := argTy hd
  obtain ⟨s, g1, g2⟩ := vStr hx
  have hsz : s.size = l.length := by rw [← g2]; rfl
  refine ⟨_, ?_, rInt _ _⟩
  rw [execBuiltin ho hcal, arr_one hargs]
  simp [builtin, Builtin.len_, h1, rUnderlying h2, g1, goInt, hsz]

theorem y_lenMap (H : HR P w0 ρ X h w) {c : Call} {x : Operand} {d : TypeDesc} {q : Option Nat} {n : Nat} (ho : o.op = .call c) (hcal : c.callee = .builtin .len) (hargs : c.args.toList = [x])
    (hd : (c.argTypes[0]?).bind P.underlying = some d) (hs : ∃ k e, d = .map k e) (hx : VR ρ (.map q) (a.eval x))
    (hn : (match q with | none => some 0 | some r => (h.mp r).map fun p => p.1.length) = some n) : Yv P ρ a w o (.int .i64 n) := by
  obtain ⟨ty, h1, h2⟩ := argTy hd
  obtain ⟨k, e, rfl⟩ := hs
  refine ⟨_, ?_, rInt _ _⟩
  rw [execBuiltin ho hcal, arr_one hargs]
  cases q with
  | none =>
    have g := vNilMap hx
    simp only [Option.some.injEq] at hn
    subst hn
    simp [builtin, Builtin.len_, h1, rUnderlying h2, g, goInt]
  | some r =>
    obtain ⟨p, g1, g2⟩ := vMap hx
    cases hm : h.mp r with
    | none => simp [hm] at hn
    | some q =>
      obtain ⟨es, cl⟩ := q
      simp only [hm, Option.map_some, Option.some.injEq] at hn
      obtain ⟨_, p', es', f1, f2, f3, _⟩ := H.mp hm
      rw [g1] at f1; cases f1
      have := f3.length
      simp only [Array.length_toList] at this
      simp [builtin, Builtin.len_, h1, rUnderlying h2, g2, goInt, rGetMap f2, ← hn, this]

theorem y_lenC {c : Call} {x : Operand} {n : Nat} {e : TypeId} (ho : o.op = .call c) (hcal : c.callee = .builtin .len) (hargs : c.args.toList = [x])
    (hd : (c.argTypes[0]?).bind P.underlying = some (.array n e)) : Yv P ρ a w o (.int .i64 n) := by
  obtain ⟨ty, h1, h2⟩ := argTy hd
  refine ⟨_, ?_, rInt _ _⟩
  rw [execBuiltin ho hcal, arr_one hargs]
  simp [builtin, Builtin.len_, h1, rUnderlying h2, goInt]

theorem rMin : ∀ (l : List AV) (vs : List Value) (x : AV) (u : Value), VR ρ x u → VRs ρ l vs → ∀ v, minA x l = some v → ∃ v', (vs.foldlM Builtin.min2 u).run P w = .ok v' w ∧ VR ρ v v'
  | [], [], x, u, hx, _, v, hv => by
    unfold minA at hv
    cases hv
    exact ⟨u, by simp, hx⟩
  | y :: l, z :: vs, x, u, hx, hl, v, hv => by
    simp only [VRs] at hl
    unfold minA at hv
    split at hv
    · rename_i heq; cases heq
    · rename_i k m k' m' rest heq
      cases heq
      split at hv
      · have e1 := vInt hx
        have e2 := vInt hl.1
        obtain ⟨v', g1, g2⟩ := rMin l vs _ (.int k (if m' < m then m' else m)) (rInt _ _) hl.2 v hv
        refine ⟨v', ?_, g2⟩
        subst e1 e2
        simp only [List.foldlM_cons, Sem.run_bind, Builtin.min2, Sem.run_pure, Result.andThen_ok]
        exact g1
      · cases hv
    · cases hv
  | [], _ :: _, _, _, _, hl, _, _ => by simp only [VRs] at hl
  | _ :: _, [], _, _, _, hl, _, _ => by simp only [VRs] at hl

theorem rMax : ∀ (l : List AV) (vs : List Value) (x : AV) (u : Value), VR ρ x u → VRs ρ l vs → ∀ v, maxA x l = some v → ∃ v', (vs.foldlM Builtin.max2 u).run P w = .ok v' w ∧ VR ρ v v'
  | [], [], x, u, hx, _, v, hv => by
    unfold maxA at hv
    cases hv
    exact ⟨u, by simp, hx⟩
  | y :: l, z :: vs, x, u, hx, hl, v, hv => by
    simp only [VRs] at hl
    unfold maxA at hv
    split at hv
    · rename_i heq; cases heq
    · rename_i k m k' m' rest heq
      cases heq
      split at hv
      · have e1 := vInt hx
        have e2 := vInt hl.1
        obtain ⟨v', g1, g2⟩ := rMax l vs _ (.int k (if m' > m then m' else m)) (rInt _ _) hl.2 v hv
        refine ⟨v', ?_, g2⟩
        subst e1 e2
        simp only [List.foldlM_cons, Sem.run_bind, Builtin.max2, Sem.run_pure, Result.andThen_ok]
        exact g1
      · cases hv
    · cases hv
  | [], _ :: _, _, _, _, hl, _, _ => by simp only [VRs] at hl
  | _ :: _, [], _, _, _, hl, _, _ => by simp only [VRs] at hl

theorem y_min (H : HR P w0 ρ X h w) (ht : VRs ρ t a.tmps.toList) {c : Call} {x : Operand} {xs : List Operand} (ho : o.op = .call c) (hcal : c.callee = .builtin .min) (hargs : c.args.toList = x :: xs)
    (hv : minA ((cO P x).ev t) (xs.map fun y => (cO P y).ev t) = some v) : Yv P ρ a w o v := by
  obtain ⟨v', g1, g2⟩ := rMin (P := P) (w := w) _ _ _ _ (H.ev ht x) (H.evs ht xs) v hv
  refine ⟨v', ?_, g2⟩
  rw [execBuiltin ho hcal]
  simp only [builtin, Builtin.min_, Array.toList_map, hargs, List.map_cons, Sem.run_bind, g1, Result.andThen_ok, Sem.run_pure]

theorem y_max (H : HR P w0 ρ X h w) (ht : VRs ρ t a.tmps.toList) {c : Call} {x : Operand} {xs : List Operand} (ho : o.op = .call c) (hcal : c.callee = .builtin .max) (hargs : c.args.toList = x :: xs)
    (hv : maxA ((cO P x).ev t) (xs.map fun y => (cO P y).ev t) = some v) : Yv P ρ a w o v := by
  obtain ⟨v', g1, g2⟩ := rMax (P := P) (w := w) _ _ _ _ (H.ev ht x) (H.evs ht xs) v hv
  refine ⟨v', ?_, g2⟩
  rw [execBuiltin ho hcal]
  simp only [builtin, Builtin.max_, Array.toList_map, hargs, List.map_cons, Sem.run_bind, g1, Result.andThen_ok, Sem.run_pure]

/-! An iterator's entry -/
theorem er_find (n : Nat) : ∀ (es : List (AV × AV × Nat)) (es' : List MapEntry), ER ρ es es' → ∀ e, es.find? (fun e => e.2.2 == n) = some e → ∃ e', es'.find? (·.born == n) = some e' ∧ VR ρ e.1 e'.key ∧ VR ρ e.2.1 e'.val ∧ e.2.2 = e'.born
  | [], [], _, e, h => by simp at h
  | x :: es, y :: es', hr, e, h => by
    obtain ⟨h1, h2, h3, h4⟩ := hr
    rw [List.find?_cons] at h ⊢
    rw [← h3]
    split at h
    · cases h
      exact ⟨y, by simp [*], h1, h2, h3⟩
    · obtain ⟨e', g⟩ := er_find n es es' h4 e h
      exact ⟨e', by simp [*], g.2⟩
  | [], _ :: _, r, _, _ => r.elim
  | _ :: _, [], r, _, _ => r.elim

theorem y_entry (H : HR P w0 ρ X h w) {x : Operand} {r m since stepped clock stamp : Nat} {seen : List Nat} {es : List (AV × AV × Nat)} {e : AV × AV × Nat} (ho : o.op = .entry x) (hx : VR ρ (.ptr (some (r, 0))) (a.eval x))
    (hg : h.get r = some (.iter (some m) since seen stepped)) (hm : h.mp m = some (es, clock)) (hs : seen.getLast? = some stamp) (hc : clock = stepped) (he : es.find? (fun e => e.2.2 == stamp) = some e) :
    Yv P ρ a w o (.tup [e.1, e.2.1]) := by
  obtain ⟨p, h1, h2⟩ := vPtr hx
  obtain ⟨p', g1, ⟨g2, m', g3, q, g4, g5⟩, _⟩ := H.get hg
  simp only at h1
  rw [h1] at g1; cases g1
  obtain ⟨_, p2, es', f1, f2, f3, _⟩ := H.mp hm
  rw [g4] at f1; cases f1
  obtain ⟨e', k1, k2, k3, _⟩ := er_find stamp es es'.toList f3 e he
  refine ⟨.tuple #[e'.key, e'.val], ?_, ?_⟩
  · have hb : seen.toArray.back? = some stamp := by simpa [Array.back?_eq_getElem?, List.getLast?_eq_getElem?] using hs
    have hf : es'.find? (·.born == stamp) = some e' := by rw [← Array.find?_toList]; exact k1
    have hget : (getObj p.1).run P w = .ok (.mapIter m' since seen.toArray stepped) w := by simp [getObj, Sem.run, g3]
    subst hc
    simp [execOp, ho, h2, g2, Instr.entry, hget, g5, hb, rGetMap f2, hf]
  · simp only [VR]
    exact ⟨_, rfl, by simp [VRs, k2, k3]⟩

end
end Go.Am

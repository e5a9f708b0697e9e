/- The abstract machine against the model: comparisons, conversions, addresses, parts. Conditions: those that each lemma names. -/
import Derived.Test.YtmpdpcamgkndnaaGreatDoorAmOps3
set_option linter.constructorNameAsVariable false
set_option linter.unusedSimpArgs false
set_option linter.unusedVariables false
namespace Go.Am
open Go.RowKit (Below)

section
variable {P : Program} {w0 : World} {ρ : Ren} {X : Frm} {h : Heap} {w : World} {t : List AV} {a : Act} {o : Oper} {v : AV} {op : AOp}

/-! Conversions -/
theorem isU8_int {e : TypeId} (he : isU8 P e = true) : P.underlying e = some (.int .u8) := by
  unfold isU8 at he
  split at he
  · assumption
  · cases he

theorem y_conv {s d : TypeId} {x : Operand} {k : IntKind} {kk : IntKind} {m : Int} (ho : o.op = .convert s d x) {ks : IntKind} (hs : P.underlying s = some (.int ks)) (hd : P.underlying d = some (.int k))
    (hx : VR ρ (.int kk m) (a.eval x)) : Yv P ρ a w o (.int k (k.wrap m)) := by
  have ex := vInt hx
  refine ⟨_, ?_, rInt _ _⟩
  simp [execOp, ho, ex, convert, rUnderlying hs, rUnderlying hd, Conv.intToInt]

theorem y_same {s d : TypeId} {x : Operand} {l : List UInt8} (ho : o.op = .convert s d x) (hs : P.underlying s = some .string) (hd : P.underlying d = some .string)
    (hx : VR ρ (.str l) (a.eval x)) : Yv P ρ a w o (.str l) := by
  obtain ⟨s', ex, hs'⟩ := vStr hx
  refine ⟨.string s', ?_, by simp only [VR]; exact ⟨_, rfl, hs'⟩⟩
  simp [execOp, ho, ex, convert, rUnderlying hs, rUnderlying hd]

theorem toBytes_rel : ∀ (l : List AV) (vs : List Value) (bs : List UInt8), VRs ρ l vs → toBytes l = some bs → ∃ ns : List Int, vs = ns.map (Value.int .u8) ∧ bs = ns.map fun n => UInt8.ofNat n.toNat
  | [], [], bs, _, h => by simp only [toBytes, Option.some.injEq] at h; subst h; exact ⟨[], rfl, rfl⟩
  | x :: l, v :: vs, bs, hr, h => by
    simp only [VRs] at hr
    unfold toBytes at h
    split at h
    · rename_i heq; cases heq
    · rename_i n rest heq
      cases heq
      split at h
      · rename_i l' hl'
        cases h
        obtain ⟨ns, h1, h2⟩ := toBytes_rel l vs l' hr.2 hl'
        have := vInt hr.1
        exact ⟨n :: ns, by simp [this, h1], by simp [h2]⟩
      · cases h
    · cases h
  | [], _ :: _, _, hr, _ => by simp only [VRs] at hr
  | _ :: _, [], _, hr, _ => by simp only [VRs] at hr

/-- The cells that a slice shows. -/
theorem HR.slCells (H : HR P w0 ρ X h w) {size : Nat} {x : AV} {u : Value} (hx : VR ρ x u) {l : List AV} (hl : h.slCells size x = some l) :
    (∃ s : ByteArray, u = .string s ∧ x = .str s.data.toList ∧ l = ofBytes s.data.toList ∧ size = 1) ∨
    (u = .slice none 0 0 ∧ l = [] ∧ ∃ c e k, x = .sl none k c e) ∨
    (∃ q n c e ad c', x = .sl (some q) n c e ∧ u = .slice (some ad) n c' ∧ ∃ vs : List Value, vs.length = n * size ∧ VRs ρ l vs ∧ ∀ P', (loadCells ad (n * size)).run P' w = .ok vs.toArray w) := by
  unfold Heap.slCells at hl
  split at hl
  · rename_i k c e
    cases hl
    obtain ⟨h1, h2, h3⟩ := vNilSl hx
    exact .inr (.inl ⟨h3, rfl, c, e, k, rfl⟩)
  · rename_i q n c e
    obtain ⟨p, y, c', h1, h2, h3, h4, h5⟩ := vSl hx
    refine .inr (.inr ⟨q, n, c, e, _, c', rfl, h2, ?_⟩)
    split at hl
    · rename_i h0
      cases hl
      refine ⟨[], by simp [h0], by simp [VRs], fun P' => ?_⟩
      rw [h0]; simp [loadCells, loadCellsFrom]
    · rename_i h0
      obtain ⟨p', vs, g1, g2, g3, g4⟩ := H.ldN (n := q.1) (o := q.2) hl
      rw [h1] at g1; cases g1
      have hn : 0 < n := by
        rcases Nat.eq_zero_or_pos n with hz | hz
        · subst hz; simp at h0
        · exact hz
      have hy : y = p.2.1 + q.2 := by
        rcases h4 with h4 | h4
        · exact h4
        · unfold exR at h5
          cases e with
          | none => simp only at h5; omega
          | some es => simp only at h5; omega
      subst hy
      exact ⟨vs, g2, g4, fun P' => rLoadCells g2 g3⟩
  · rename_i l'
    split at hl
    · rename_i h1
      cases hl
      obtain ⟨s, e1, e2⟩ := vStr hx
      exact .inl ⟨s, e1, by rw [e2], by rw [e2], h1⟩
    · cases hl
  · cases hl

theorem foldl_push (ns : List Int) : ∀ s : ByteArray, (ns.foldl (fun r n => r.push (UInt8.ofNat n.toNat)) s).data.toList = s.data.toList ++ ns.map fun n => UInt8.ofNat n.toNat := by
  induction ns with
  | nil => intro s; simp
  | cons n ns ih =>
    intro s
    simp only [List.foldl_cons, ih, List.map_cons]
    simp [ByteArray.push]

theorem y_bytesStr (H : HR P w0 ρ X h w) {s d e : TypeId} {x : Operand} {xa : AV} {l : List UInt8} (ho : o.op = .convert s d x) (hs : P.underlying s = some (.slice e)) (hd : P.underlying d = some .string)
    (he : isU8 P e = true) (hx : VR ρ xa (a.eval x)) (hl : h.slBytes xa = some l) : Yv P ρ a w o (.str l) := by
  unfold Heap.slBytes at hl
  split at hl
  · rename_i q n c ex
    cases hc : h.slCells 1 (.sl q n c ex) with
    | none => simp [hc] at hl
    | some cs =>
      simp only [hc, Option.bind_some] at hl
      have hu := isU8_int he
      rcases H.slCells hx hc with ⟨s', _, hbad, _⟩ | ⟨h1, h2, _⟩ | ⟨q', n', c', ex', ad, c2, h1, h2, vs, h3, h4, h5⟩
      · cases hbad
      · subst h2
        simp [toBytes] at hl
        subst hl
        refine ⟨.string .empty, ?_, by simp only [VR]; exact ⟨_, rfl, by rfl⟩⟩
        simp [execOp, ho, h1, convert, rUnderlying hs, rUnderlying hd, rUnderlying hu, Conv.bytesToString]
      · cases h1
        obtain ⟨ns, g1, g2⟩ := toBytes_rel _ _ _ h4 hl
        subst g1
        have hrun := run_bytesToString (P := P) w ad n c2 ns (by have := h5 P; simpa using this)
        refine ⟨.string (ns.foldl (fun r n => r.push (UInt8.ofNat n.toNat)) ByteArray.empty), ?_, by simp only [VR]; exact ⟨_, rfl, by rw [foldl_push, g2]; rfl⟩⟩
        simp [execOp, ho, h2, convert, rUnderlying hs, rUnderlying hd, rUnderlying hu, hrun]
  · cases hl

/-! Addresses -/
theorem y_s2a {ty el : TypeId} {n : Nat} {x : Operand} {q : Nat × Nat} {len c : Nat} {e : Option Nat} (ho : o.op = .sliceToArrayPointer ty x) (hu : P.underlying ty = some (.array n el))
    (hx : VR ρ (.sl (some q) len c e) (a.eval x)) (hn : n ≤ len ∧ 0 < n) : Yv P ρ a w o (.ptr (some q)) := by
  obtain ⟨p, y, c', h1, h2, h3, h4, h5⟩ := vSl hx
  have hy : y = p.2.1 + q.2 := by
    rcases h4 with h4 | h4
    · exact h4
    · unfold exR at h5
      cases e with
      | none => simp only at h5; omega
      | some es => simp only at h5; omega
  subst hy
  refine ⟨_, ?_, by simp only [VR]; exact ⟨p, h1, rfl⟩⟩
  have : ¬ len < n := by omega
  simp [execOp, ho, h2, Instr.arrayAt, rUnderlying hu, this]

theorem y_fieldAddr {ty : TypeId} {fs : Array Field} {f : Nat} {fd : Field} {x : Operand} {s : Nat} {q : Nat × Nat} (ho : o.op = .fieldAddr ty x f) (hu : P.underlying ty = some (.struct fs)) (hf : fs[f]? = some fd)
    (hs : Tp.size P fd.type = some (s + 1)) (hx : VR ρ (.ptr (some q)) (a.eval x)) : Yv P ρ a w o (.ptr (some (q.1, q.2 + fd.offset))) := by
  obtain ⟨p, h1, h2⟩ := vPtr hx
  refine ⟨.pointer (some ⟨p.1, p.2.1 + (q.2 + fd.offset), none⟩), ?_, by simp only [VR]; exact ⟨p, h1, rfl⟩⟩
  simp [execOp, ho, h2, Instr.fieldAt, rUnderlying hu, hf, Instr.sureAddr, fieldPlace, rSize hs, add_none, Nat.add_assoc]

theorem y_idxAddrArr {ty el : TypeId} {len s : Nat} {x i : Operand} {q : Nat × Nat} {k : IntKind} {n : Int} (ho : o.op = .indexAddr ty x i) (hu : P.underlying ty = some (.array len el)) (hs : Tp.size P el = some s)
    (hx : VR ρ (.ptr (some q)) (a.eval x)) (hi : VR ρ (.int k n) (a.eval i)) (hn : 0 ≤ n ∧ n < len) : Yv P ρ a w o (.ptr (some (q.1, q.2 + n.toNat * s))) := by
  obtain ⟨p, h1, h2⟩ := vPtr hx
  have e := vInt hi
  refine ⟨.pointer (some ⟨p.1, p.2.1 + (q.2 + n.toNat * s), none⟩), ?_, by simp only [VR]; exact ⟨p, h1, rfl⟩⟩
  simp [execOp, ho, h2, e, Instr.indexAt, asIntOf, rUnderlying hu, Instr.sureAddr, rSize hs, add_none, hn.1, hn.2, Nat.add_assoc]

theorem y_idxAddrSl {ty el : TypeId} {len c s : Nat} {ex : Option Nat} {x i : Operand} {q : Nat × Nat} {k : IntKind} {n : Int} (ho : o.op = .indexAddr ty x i) (hu : P.underlying ty = some (.slice el)) (hs : Tp.size P el = some s)
    (hx : VR ρ (.sl (some q) len c ex) (a.eval x)) (hi : VR ρ (.int k n) (a.eval i)) (hn : 0 ≤ n ∧ n < len) : Yv P ρ a w o (.ptr (some (q.1, q.2 + n.toNat * s))) := by
  obtain ⟨p, y, c', h1, h2, h3, h4, h5⟩ := vSl hx
  have hy : y = p.2.1 + q.2 := by
    rcases h4 with h4 | h4
    · exact h4
    · unfold exR at h5
      cases ex with
      | none => simp only at h5; omega
      | some es => simp only at h5; omega
  subst hy
  have e := vInt hi
  refine ⟨.pointer (some ⟨p.1, p.2.1 + (q.2 + n.toNat * s), none⟩), ?_, by simp only [VR]; exact ⟨p, h1, rfl⟩⟩
  simp [execOp, ho, h2, e, Instr.indexAt, asIntOf, rUnderlying hu, rSize hs, add_none, hn.1, hn.2, Nat.add_assoc]

/-! Parts -/
theorem y_field1 {ty : TypeId} {fs : Array Field} {f : Nat} {fd : Field} {x : Operand} {l : List AV} (ho : o.op = .field ty x f) (hu : P.underlying ty = some (.struct fs)) (hf : fs[f]? = some fd)
    (hg : Tp.agg P fd.type = some false) (hx : VR ρ (.agg l) (a.eval x)) (hl : l[fd.offset]? = some v) : Yv P ρ a w o v := by
  obtain ⟨cs, h1, h2⟩ := vAgg hx
  obtain ⟨v', hv, hr⟩ := h2.get _ _ hl
  refine ⟨v', ?_, hr⟩
  have : cs[fd.offset]? = some v' := by simpa using hv
  simp [execOp, ho, h1, Instr.field, rUnderlying hu, hf, asAgg, part, rAgg hg, this]

theorem y_fieldN {ty : TypeId} {fs : Array Field} {f n : Nat} {fd : Field} {x : Operand} {l : List AV} (ho : o.op = .field ty x f) (hu : P.underlying ty = some (.struct fs)) (hf : fs[f]? = some fd)
    (hg : Tp.agg P fd.type = some true) (hs : Tp.size P fd.type = some n) (hx : VR ρ (.agg l) (a.eval x)) (hl : fd.offset + n ≤ l.length) : Yv P ρ a w o (.agg ((l.drop fd.offset).take n)) := by
  obtain ⟨cs, h1, h2⟩ := vAgg hx
  refine ⟨.agg (cs.extract fd.offset (fd.offset + n)), ?_, ?_⟩
  · simp [execOp, ho, h1, Instr.field, rUnderlying hu, hf, asAgg, part, rAgg hg, rSize hs]
  · simp only [VR]
    refine ⟨_, rfl, ?_⟩
    have := (h2.drop fd.offset).take n
    simpa [List.extract_eq_take_drop] using this

theorem y_idxArr1 {ty el : TypeId} {len : Nat} {x i : Operand} {l : List AV} {k : IntKind} {n : Int} (ho : o.op = .index ty x i) (hu : P.underlying ty = some (.array len el)) (hg : Tp.agg P el = some false) (hs : Tp.size P el = some 1)
    (hx : VR ρ (.agg l) (a.eval x)) (hi : VR ρ (.int k n) (a.eval i)) (hn : 0 ≤ n ∧ n < len) (hl : l[n.toNat]? = some v) : Yv P ρ a w o v := by
  obtain ⟨cs, h1, h2⟩ := vAgg hx
  have e := vInt hi
  obtain ⟨v', hv, hr⟩ := h2.get _ _ hl
  refine ⟨v', ?_, hr⟩
  have : cs[n.toNat]? = some v' := by simpa using hv
  simp [execOp, ho, h1, e, Instr.index, asIntOf, rUnderlying hu, hn.1, hn.2, part, rAgg hg, rSize hs, this]

theorem y_idxArrN {ty el : TypeId} {len m : Nat} {x i : Operand} {l : List AV} {k : IntKind} {n : Int} (ho : o.op = .index ty x i) (hu : P.underlying ty = some (.array len el)) (hg : Tp.agg P el = some true) (hs : Tp.size P el = some m)
    (hx : VR ρ (.agg l) (a.eval x)) (hi : VR ρ (.int k n) (a.eval i)) (hn : 0 ≤ n ∧ n < len) : Yv P ρ a w o (.agg ((l.drop (n.toNat * m)).take m)) := by
  obtain ⟨cs, h1, h2⟩ := vAgg hx
  have e := vInt hi
  refine ⟨.agg (cs.extract (n.toNat * m) (n.toNat * m + m)), ?_, ?_⟩
  · simp [execOp, ho, h1, e, Instr.index, asIntOf, rUnderlying hu, hn.1, hn.2, part, rAgg hg, rSize hs]
  · simp only [VR]
    refine ⟨_, rfl, ?_⟩
    have := (h2.drop (n.toNat * m)).take m
    simpa [List.extract_eq_take_drop] using this

theorem y_idxStr {ty : TypeId} {x i : Operand} {l : List UInt8} {k : IntKind} {n : Int} {b : UInt8} (ho : o.op = .index ty x i) (hu : P.underlying ty = some .string)
    (hx : VR ρ (.str l) (a.eval x)) (hi : VR ρ (.int k n) (a.eval i)) (hn : 0 ≤ n) (hl : l[n.toNat]? = some b) : Yv P ρ a w o (.int .u8 b.toNat) := by
  obtain ⟨s, h1, h2⟩ := vStr hx
  have e := vInt hi
  refine ⟨_, ?_, rInt _ _⟩
  have hlt : n.toNat < s.size := by
    have := (List.getElem?_eq_some_iff.1 hl).1
    rw [← h2] at this; simpa using this
  have : s[n.toNat]? = some b := by
    rw [← h2] at hl
    rw [getElem?_pos s n.toNat hlt]
    have : s.data[n.toNat]? = some b := by simpa using hl
    rw [Array.getElem?_eq_some_iff] at this
    obtain ⟨_, hb⟩ := this
    simp only [Option.some.injEq]
    exact hb
  simp [execOp, ho, h1, e, Instr.index, asIntOf, rUnderlying hu, hn, this]

theorem y_ext {x : Operand} {i : Nat} {l : List AV} (ho : o.op = .extract x i) (hx : VR ρ (.tup l) (a.eval x)) (hl : l[i]? = some v) : Yv P ρ a w o v := by
  obtain ⟨cs, h1, h2⟩ := vTup hx
  obtain ⟨v', hv, hr⟩ := h2.get _ _ hl
  refine ⟨v', ?_, hr⟩
  have : cs[i]? = some v' := by simpa using hv
  simp [execOp, ho, h1, Instr.extract, this]

theorem y_mkFn {f : Nat} {first caps : Array Operand} (H : HR P w0 ρ X h w) (ht : VRs ρ t a.tmps.toList) (ho : o.op = .makeFunc (.func f) first caps) (hf : first.size = 0) :
    Yv P ρ a w o (.fn f ((caps.toList.map (cO P)).map (AO.ev t))) := by
  have hfe : first = #[] := Array.eq_empty_of_size_eq_zero hf
  subst hfe
  refine ⟨.func (.func f) #[] (caps.map a.eval), ?_, ?_⟩
  · simp [execOp, ho, Instr.makeFunc]
  · simp only [VR]
    refine ⟨_, rfl, ?_⟩
    have := H.evs ht caps.toList
    simpa [Function.comp_def] using this

end
end Go.Am

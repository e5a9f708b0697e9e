/- The abstract machine against the model: operations that make one block. Conditions: those that each lemma names. -/
import Derived.Test.YtmpdpcamgkndnaaGreatDoorAmOps9
import Derived.IntWalk
set_option linter.constructorNameAsVariable false
set_option linter.unusedSimpArgs false
set_option linter.unusedVariables false
namespace Go.Am
open Go.RowKit (Below)

section
variable {P : Program} {w0 : World} {ρ : Ren} {X : Frm} {h : Heap} {w : World} {t : List AV} {a : Act} {o : Oper} {v : AV} {op : AOp}

/-- The operation makes one block. -/
def Mk (P : Program) (ρ : Ren) (a : Act) (w : World) (o : Oper) (b : Blk) (f : Nat → AV) : Prop :=
  ∃ v' w' obj sz, (execOp a.eval o).run P w = .ok (.value v') w' ∧ w'.heap = w.heap.push obj ∧ w'.os = w.os ∧ w'.tape = w.tape ∧ w'.output = w.output ∧
    ∀ n, ρ n = none → BR P (ρ.put n (w.heap.size, 0, sz)) (w.heap.size, 0, sz) b (some obj) ∧ VR (ρ.put n (w.heap.size, 0, sz)) (f n) v'

theorem cells_new {e : Nat} {l : List AV} {ro : Bool} {c : Array Value} (hl : VRs ρ l c.toList) (n r : Nat) (hn : ρ n = none) :
    BR P (ρ.put n (r, 0, c.size)) (r, 0, c.size) (.cells e l ro) (some (.cells c e)) := by
  have hlen := hl.length
  simp only [Array.length_toList] at hlen
  refine ⟨c, 0, 0, rfl, rfl, .inl rfl, by simp; omega, ?_⟩
  simp only [List.drop_zero]
  rw [List.take_of_length_le (by simp; omega)]
  exact hl.mono (Ren.le_put hn)

theorem rNewVar {e : TypeId} {v : Value} : (newVar e v).run P w = .ok ⟨w.heap.size, 0, none⟩ { w with heap := w.heap.push (.cells v.cells e) } := by
  simp [newVar, newRow, newObj, Sem.run]
theorem rNewRow {e : TypeId} {c : Array Value} : (newRow e c).run P w = .ok ⟨w.heap.size, 0, none⟩ { w with heap := w.heap.push (.cells c e) } := by
  simp [newRow, newObj, Sem.run]

theorem m_alloc {e : TypeId} {z : List AV} (ho : o.op = .alloc e) (hz : Tp.zeros P e = some z) : Mk P ρ a w o (.cells e z false) (fun n => .ptr (some (n, 0))) := by
  obtain ⟨zv, h1, h2, h3⟩ := Tp.zeros_zero hz
  refine ⟨.pointer (some ⟨w.heap.size, 0, none⟩), { w with heap := w.heap.push (.cells zv.cells e) }, .cells zv.cells e, zv.cells.size, ?_, rfl, rfl, rfl, rfl, fun n hn => ⟨?_, ?_⟩⟩
  · simp only [execOp, ho, Instr.alloc, Sem.run_bind, rZero h1, Result.andThen_ok, rNewVar, Sem.run_pure]
  · exact cells_new (by rw [h2]; exact VRs.ofV1 ρ _) n _ hn
  · simp only [VR]
    exact ⟨_, Ren.put_same _ _ _, rfl⟩

theorem m_box {e : TypeId} {x : Operand} {xa : AV} (ho : o.op = .box e x) (hx : VR ρ xa (a.eval x)) (hf : xa.cells.all AV.flat = true) : Mk P ρ a w o (.cells e xa.cells false) (fun n => .ptr (some (n, 0))) := by
  refine ⟨.pointer (some ⟨w.heap.size, 0, none⟩), { w with heap := w.heap.push (.cells (a.eval x).cells e) }, .cells (a.eval x).cells e, (a.eval x).cells.size, ?_, rfl, rfl, rfl, rfl, fun n hn => ⟨?_, ?_⟩⟩
  · simp only [execOp, ho, Instr.box, Sem.run_bind, Result.andThen_ok, rNewVar, Sem.run_pure]
  · exact cells_new (hx.cells' rfl hf) n _ hn
  · simp only [VR]
    exact ⟨_, Ren.put_same _ _ _, rfl⟩

theorem m_map {ty : TypeId} (ho : o.op = .makeMap ty none) : Mk P ρ a w o (.map [] 0) (fun n => .map (some n)) := by
  refine ⟨.map (some w.heap.size), { w with heap := w.heap.push (.map #[] 0) }, .map #[] 0, 0, ?_, rfl, rfl, rfl, rfl, fun n hn => ⟨⟨#[], rfl, trivial⟩, ?_⟩⟩
  · simp [execOp, ho, Instr.makeMap, newObj, Sem.run]
  · simp only [VR]
    exact ⟨_, Ren.put_same _ _ _, rfl⟩

theorem flat_get {α : Type} (z : List α) : ∀ (n i : Nat), i < n * z.length → (List.replicate n z).flatten[i]? = z[i % z.length]?
  | 0, i, h => by simp at h
  | n + 1, i, h => by
    rw [List.replicate_succ, List.flatten_cons]
    by_cases hi : i < z.length
    · rw [List.getElem?_append_left hi, Nat.mod_eq_of_lt hi]
    · rw [List.getElem?_append_right (by omega), flat_get z n (i - z.length) (by rw [Nat.succ_mul] at h; omega)]
      rw [← Nat.mod_eq_sub_mod (by omega)]

theorem flat_len {α : Type} (z : List α) (n : Nat) : (List.replicate n z).flatten.length = n * z.length := by
  simp

theorem zero_cells {z : List AV} {zc : Array Value} (hz : VRs ρ z zc.toList) (n : Nat) :
    VRs ρ (List.replicate n z).flatten ((Array.range (n * z.length)).map fun i => (if n * z.length = 0 then #[] else zc)[i % (if n * z.length = 0 then #[] else zc).size]!).toList := by
  have hl := hz.length
  simp only [Array.length_toList] at hl
  by_cases h0 : n * z.length = 0
  · have : (List.replicate n z).flatten = [] := List.eq_nil_of_length_eq_zero (by rw [flat_len]; exact h0)
    rw [this, h0]
    simp [VRs]
  · simp only [h0, if_false]
    refine VRs.of_get (by simp) fun i b hb => ?_
    have hi : i < n * z.length := by
      have := (List.getElem?_eq_some_iff.1 hb).1
      rw [flat_len] at this; exact this
    rw [flat_get z n i hi] at hb
    obtain ⟨v, hv, hr⟩ := hz.get _ b hb
    refine ⟨v, ?_, hr⟩
    have hzl : 0 < z.length := by
      rcases Nat.eq_zero_or_pos z.length with hz0 | hz0
      · rw [hz0] at h0; simp at h0
      · exact hz0
    have hm : i % zc.size < zc.size := Nat.mod_lt _ (by omega)
    have hv' : zc[i % zc.size] = v := by
      rw [hl, List.getElem?_eq_some_iff] at hv
      obtain ⟨_, hv⟩ := hv
      simpa using hv
    simp only [Array.toList_map, Array.toList_range, List.getElem?_map, List.getElem?_range hi, Option.map_some, Option.some.injEq]
    rw [getElem!_pos zc _ hm]
    exact hv'

theorem m_buildSl (H : HR P w0 ρ X h w) (ht : VRs ρ t a.tmps.toList) {ty e : TypeId} {len s : Nat} {ps : Array (Nat × Operand)} {l : List (Nat × Nat × AO)} {z r : List AV} (ho : o.op = .buildSlice ty len ps)
    (hu : P.underlying ty = some (.slice e)) (hs : Tp.size P e = some s) (hz : Tp.zeros P e = some z) (hc : len * s ≤ 2 ^ 24 ∧ z.length = s) (hl : cParts P (fun i => some (i * s, s)) ps.toList = some l)
    (hf : fillA (List.replicate len z).flatten (l.map fun p => (p.1, p.2.1, p.2.2.ev t)) = some r) :
    Mk P ρ a w o (.cells e r false) (fun n => .sl (some (n, 0)) len len none) := by
  obtain ⟨zv, h1, h2, h3⟩ := Tp.zeros_zero hz
  have hzr : VRs ρ z zv.cells.toList := by rw [h2]; exact VRs.ofV1 ρ _
  obtain ⟨c1, c2⟩ := hc
  subst c2
  obtain ⟨rc, g1, g2⟩ := fill_rel (P := P) (eva := AO.ev t) (fun x => H.ev ht x) ps.toList l _ _ r hl (zero_cells hzr len) hf
  refine ⟨.slice (some ⟨w.heap.size, 0, none⟩) len len, { w with heap := w.heap.push (.cells rc e) }, .cells rc e, rc.size, ?_, rfl, rfl, rfl, rfl, fun n hn => ⟨cells_new g2 n _ hn, ?_⟩⟩
  · have hnot : ¬ len * z.length > 2 ^ 24 := by omega
    simp only [execOp, ho, Instr.buildSlice, Sem.run_bind, rUnderlying hu, Result.andThen_ok, rSize hs, hnot, if_false, Sem.run_pure, Array.toList_map]
    by_cases h0 : len * z.length = 0
    · rw [if_pos h0] at g1
      rw [if_pos h0]
      simp only [Sem.run_bind, Sem.run_pure, Result.andThen_ok]
      rw [g1]
      simp only [Sem.run_bind, rNewRow, Result.andThen_ok, Sem.run_pure]
    · rw [if_neg h0] at g1
      rw [if_neg h0]
      simp only [Sem.run_bind, Sem.run_pure, Result.andThen_ok, rZero h1]
      rw [g1]
      simp only [Sem.run_bind, rNewRow, Result.andThen_ok, Sem.run_pure]
  · simp only [VR]
    exact ⟨_, 0, len, Ren.put_same _ _ _, rfl, Nat.le_refl _, .inl rfl, rfl⟩

theorem m_mkSl {ty e : TypeId} {s by_ : Nat} {lo co : Operand} {z : List AV} {k k' : IntKind} {m m' : Int} (ho : o.op = .makeSlice ty lo co) (hu : P.underlying ty = some (.slice e)) (hs : Tp.size P e = some s)
    (hb : Tp.bytes P e = some by_) (hz : Tp.zeros P e = some z) (hzl : z.length = s) (hl : VR ρ (.int k m) (a.eval lo)) (hc : VR ρ (.int k' m') (a.eval co))
    (hm : 0 ≤ m ∧ m ≤ m' ∧ m' * by_ ≤ 2 ^ 40 ∧ m' ≤ 2 ^ 40) :
    Mk P ρ a w o (.cells e (List.replicate m'.toNat z).flatten false) (fun n => .sl (some (n, 0)) m.toNat m'.toNat none) := by
  obtain ⟨zv, h1, h2, h3⟩ := Tp.zeros_zero hz
  have hzr : VRs ρ z zv.cells.toList := by rw [h2]; exact VRs.ofV1 ρ _
  obtain ⟨i, hi1, hi2⟩ := Tp.bytes_info hb
  obtain ⟨a1, a2, a3, a4⟩ := hm
  have el := vInt hl
  have ec := vInt hc
  have w1 : IntKind.i64.wrap m = m := IntWalk.i64_in _ (by omega)
  have w2 : IntKind.i64.wrap m' = m' := IntWalk.i64_in _ (by omega)
  subst hzl
  have hmul : (by_ : Int) * m' ≤ 2 ^ 48 := by rw [Int.mul_comm]; omega
  have t1 : (decide (m' < 0) || decide ((by_ : Int) * m' > 2 ^ 48)) = false := by
    rw [Bool.or_eq_false_iff]; exact ⟨decide_eq_false (by omega), decide_eq_false (by omega)⟩
  have t2 : ¬ m < 0 := by omega
  have t3 : ¬ m > m' := by omega
  have hroom : m'.toNat * by_ ≤ 2 ^ 47 := by
    have : ((m'.toNat * by_ : Nat) : Int) = m' * by_ := by
      rw [Int.natCast_mul, Int.toNat_of_nonneg (by omega)]
    omega
  refine ⟨.slice (some ⟨w.heap.size, 0, none⟩) m.toNat m'.toNat, { w with heap := w.heap.push (.cells ((Array.range (m'.toNat * z.length)).map fun i => (if m'.toNat * z.length = 0 then #[] else zv.cells)[i % (if m'.toNat * z.length = 0 then #[] else zv.cells).size]!) e) },
    _, _, ?_, rfl, rfl, rfl, rfl, fun n hn => ⟨cells_new (zero_cells hzr m'.toNat) n _ hn, ?_⟩⟩
  · have hask : (askRoom (m'.toNat * by_)).run P w = .ok () w := by
      have : ¬ m'.toNat * by_ > roomBytes := by unfold roomBytes; omega
      simp [askRoom, this]
    simp only [execOp, ho, Instr.makeSlice, Sem.run_bind, rUnderlying hu, Result.andThen_ok, el, ec, asInt, asIntOf, Sem.run_pure, rInfo hi1, hi2, w1, w2, t1, t2, t3, decide_false, Bool.or_self, Bool.false_eq_true, if_false, hask, rSize hs]
    by_cases h0 : m'.toNat * z.length = 0
    · rw [if_pos h0, if_pos h0]
      simp only [Sem.run_bind, Sem.run_pure, Result.andThen_ok, rNewRow]
    · rw [if_neg h0, if_neg h0]
      simp only [Sem.run_bind, Sem.run_pure, Result.andThen_ok, rZero h1, rNewRow]
  · simp only [VR]
    exact ⟨_, 0, m'.toNat, Ren.put_same _ _ _, rfl, by omega, .inl rfl, rfl⟩

theorem appendCap_ge (need old : Nat) (el : TypeId) (x : Nat) : need ≤ (Question.appendCap need old el).cut x := by
  simp only [Question.cut]; omega

theorem rChooseCap {need old : Nat} {el : TypeId} : ∃ c, need ≤ c ∧ (choose (.appendCap need old el)).run P w = .ok c { w with drawn := w.drawn + 1 } := by
  refine ⟨(Question.appendCap need old el).cut (w.tape w.drawn (.appendCap need old el)), appendCap_ge _ _ _ _, ?_⟩
  simp [choose, Sem.run, Question.forced]

theorem ofBytes_rel : ∀ l : List UInt8, VRs ρ (ofBytes l) (l.map fun b => Value.int .u8 b.toNat)
  | [] => by simp [ofBytes, VRs]
  | b :: l => by
    have := ofBytes_rel l
    simp only [ofBytes, List.map_cons, VRs] at this ⊢
    exact ⟨rInt _ _, this⟩

theorem m_strBytes {s d e : TypeId} {x : Operand} {l : List UInt8} (ho : o.op = .convert s d x) (hs : P.underlying s = some .string) (hd : P.underlying d = some (.slice e)) (h8 : isU8 P e = true)
    (hx : VR ρ (.str l) (a.eval x)) : Mk P ρ a w o (.cells e (ofBytes l) false) (fun n => .sl (some (n, 0)) l.length l.length (some 1)) := by
  obtain ⟨sv, ex, hsl⟩ := vStr hx
  have hsz : sv.size = l.length := by rw [← hsl]; rfl
  obtain ⟨c, hc, hrun⟩ := rChooseCap (P := P) (w := w) (need := sv.size) (old := 0) (el := e)
  let cells : Array Value := (sv.data.map fun b => Value.int .u8 b.toNat) ++ Array.replicate (c - sv.size) (.int .u8 0)
  have hcs : cells.size = c := by simp [cells]; omega
  have hu := isU8_int h8
  refine ⟨.slice (some ⟨w.heap.size, 0, none⟩) sv.size c, { w with heap := w.heap.push (.cells cells e (c, c + 1)), drawn := w.drawn + 1 }, _, c, ?_, rfl, rfl, rfl, rfl, fun n hn => ⟨?_, ?_⟩⟩
  · have hms : (markStringish ⟨w.heap.size, 0, none⟩).run P { w with heap := w.heap.push (.cells cells e), drawn := w.drawn + 1 } = .ok () { w with heap := w.heap.push (.cells cells e (c, c + 1)), drawn := w.drawn + 1 } := by
      have hsh : World.shape? { w with heap := w.heap.push (.cells cells e), drawn := w.drawn + 1 } w.heap.size = some (e, c) := by
        simp [World.shape?, hcs]
      have hfr : World.freeze { w with heap := w.heap.push (.cells cells e), drawn := w.drawn + 1 } { block := w.heap.size, off := c } 1 = { w with heap := w.heap.push (.cells cells e (c, c + 1)), drawn := w.drawn + 1 } := by
        unfold World.freeze
        rw [if_neg (by omega)]
        congr 1
        apply Array.ext_getElem?
        intro i
        rw [Array.getElem?_modify, Array.getElem?_push, Array.getElem?_push]
        by_cases hi : i = w.heap.size
        · subst hi; simp
        · simp [hi, Ne.symm hi]
      simp only [markStringish, shape, freeze, Sem.run_bind, Sem.run, hsh, Result.andThen_ok, hfr, Sem.run_pure]
    simp only [execOp, ho, ex, convert, Sem.run_bind, rUnderlying hs, rUnderlying hd, Result.andThen_ok, rUnderlying hu, Conv.stringToBytes, hrun, rNewRow, Sem.run_pure]
    have hms' := hms
    simp only [cells] at hms'
    rw [hms']
    rfl
  · refine ⟨cells, c, c + 1, rfl, hcs, .inr (by omega), by simp [ofBytes]; omega, ?_⟩
    have h1 : (cells.toList.drop 0).take (ofBytes l).length = l.map fun b => Value.int .u8 b.toNat := by
      simp only [List.drop_zero, cells, Array.toList_append, Array.toList_map]
      rw [List.take_append_of_le_length (by simp [ofBytes]; omega), hsl, List.take_of_length_le (by simp [ofBytes])]
    rw [h1]
    exact (ofBytes_rel l).mono (Ren.le_put hn)
  · simp only [VR]
    refine ⟨_, 0, c, Ren.put_same _ _ _, by rw [hsz], Nat.le_refl _, .inl rfl, ?_⟩
    simp only [exR]
    omega

theorem al_sound (H : HR P w0 ρ X h w) (ht : VRs ρ t a.tmps.toList) {oop : Op} {b : Blk} {f : Nat → AV} (ho : o.op = oop) (hc : cOp P oop = some op) (hcl : op.cls = .alloc) (hq : al t op = some (b, f)) : Mk P ρ a w o b f := by
  have hx := fun x => H.ev ht x
  cases oop
  case alloc e =>
    simp only [cOp] at hc
    cases hz : Tp.zeros P e with
    | none => simp [hz] at hc
    | some z =>
      simp only [hz, Option.map_some, Option.some.injEq] at hc
      subst hc
      simp only [al, Option.some.injEq, Prod.mk.injEq] at hq
      obtain ⟨rfl, rfl⟩ := hq
      exact m_alloc ho hz
  case box e x =>
    cases hc
    simp only [al] at hq
    split at hq
    · rename_i hf
      simp only [Option.some.injEq, Prod.mk.injEq] at hq
      obtain ⟨rfl, rfl⟩ := hq
      exact m_box ho (hx x) hf
    · cases hq
  case buildSlice ty len ps =>
    simp only [cOp] at hc
    split at hc
    · rename_i e hu
      split at hc
      · rename_i s z hs hz
        split at hc
        · rename_i hcd
          cases hl : cParts P (fun i => some (i * s, s)) ps.toList with
          | none => simp [hl] at hc
          | some l =>
            simp only [hl, Option.map_some, Option.some.injEq] at hc
            subst hc
            simp only [al] at hq
            split at hq
            · rename_i r hf
              split at hq
              · simp only [Option.some.injEq, Prod.mk.injEq] at hq
                obtain ⟨rfl, rfl⟩ := hq
                exact m_buildSl H ht ho hu hs hz hcd hl hf
              · cases hq
            · cases hq
        · cases hc
      · cases hc
    · cases hc
  case makeMap ty r =>
    cases r with
    | none =>
      cases hc
      simp only [al, Option.some.injEq, Prod.mk.injEq] at hq
      obtain ⟨rfl, rfl⟩ := hq
      exact m_map ho
    | some r => cases hc
  case makeSlice ty l c =>
    simp only [cOp] at hc
    split at hc
    · rename_i e hu
      split at hc
      · rename_i s bb z hs hb hz
        split at hc
        · rename_i hzl
          cases hc
          simp only [al] at hq
          split at hq
          · rename_i k m k' m' el ec
            have h1 := hx l
            have h2 := hx c
            rw [el] at h1
            rw [ec] at h2
            split at hq
            · rename_i hm
              simp only [Option.some.injEq, Prod.mk.injEq] at hq
              obtain ⟨rfl, rfl⟩ := hq
              exact m_mkSl ho hu hs hb hz hzl h1 h2 hm
            · cases hq
          · cases hq
        · cases hc
      · cases hc
    · cases hc
  case convert s d x =>
    simp only [cOp, cConv] at hc
    split at hc
    · cases hc; simp [AOp.cls] at hcl
    · cases hc; simp [AOp.cls] at hcl
    · rename_i e hs hd
      split at hc
      · rename_i h8
        cases hc
        simp only [al] at hq
        split at hq
        · rename_i l el
          have h1 := hx x
          rw [el] at h1
          split at hq
          · simp only [Option.some.injEq, Prod.mk.injEq] at hq
            obtain ⟨rfl, rfl⟩ := hq
            exact m_strBytes ho hs hd h8 h1
          · cases hq
        · cases hq
      · cases hc
    · split at hc
      · cases hc; simp [AOp.cls] at hcl
      · cases hc
    · split at hc
      · cases hc; simp [AOp.cls] at hcl
      · cases hc
    · cases hc
  case binOp bop ty x y ty' =>
    exfalso
    simp only [cOp, cBin] at hc
    split at hc
    · cases hc; simp [AOp.cls] at hcl
    · cases hc; simp [AOp.cls] at hcl
    · split at hc
      · simp only [Option.map_eq_some_iff] at hc; obtain ⟨_, _, rfl⟩ := hc; simp [AOp.cls] at hcl
      · simp only [Option.map_eq_some_iff] at hc; obtain ⟨_, _, rfl⟩ := hc; simp [AOp.cls] at hcl
      · cases hc
  case call c =>
    exfalso
    simp only [cOp] at hc
    split at hc
    · split at hc
      · split at hc
        · split at hc
          · cases hc
          · cases hc; simp [AOp.cls] at hcl
        · split at hc
          · split at hc
            · cases hc; simp [AOp.cls] at hcl
            · cases hc
          · cases hc
      · cases hc
    · cases hc; simp [AOp.cls] at hcl
    · rename_i b _
      cases b <;> simp only [cBuiltin, cLen, cAppend, cCopy, cClear, cDelete] at hc <;> (try (cases hc; done)) <;> (try (cases hc; simp [AOp.cls] at hcl; done)) <;>
        (repeat (split at hc <;> (try (cases hc; done)))) <;>
        first
        | (cases hc; simp [AOp.cls] at hcl; done)
        | (simp only [Option.map_eq_some_iff] at hc; obtain ⟨_, _, rfl⟩ := hc; simp [AOp.cls] at hcl; done)
    · cases hc
  case makeFunc fn first caps =>
    exfalso
    cases fn <;> simp only [cOp] at hc <;> (try (cases hc; done))
    split at hc
    · cases hc; simp [AOp.cls] at hcl
    · cases hc
  case next it s =>
    cases s
    · cases hc; simp [AOp.cls] at hcl
    · cases hc
  all_goals
    exfalso
    simp only [cOp] at hc
    first
    | (cases hc; done)
    | (cases hc; simp [AOp.cls] at hcl; done)
    | (simp only [Option.map_eq_some_iff] at hc; obtain ⟨_, _, rfl⟩ := hc; simp [AOp.cls] at hcl; done)
    | ((repeat' (first | (cases hc; done) | split at hc)) <;>
       first
       | (cases hc; simp [AOp.cls] at hcl; done)
       | (simp only [Option.map_eq_some_iff] at hc; obtain ⟨_, _, rfl⟩ := hc; simp [AOp.cls] at hcl; done))

end
end Go.Am

/- The abstract machine against the model: operations that leave the heap alone, one by one. Conditions: those that each lemma names. -/
import Derived.Test.YtmpdpcamgkndnaaGreatDoorAmOps1
import Derived.Laws.Tables
import Derived.Laws.BytesString
set_option linter.constructorNameAsVariable false
set_option linter.unusedSimpArgs false
set_option linter.unusedVariables false
namespace Go.Am
open Go.RowKit (Below)

section
variable {P : Program} {w0 : World} {ρ : Ren} {X : Frm} {h : Heap} {w : World} {t : List AV} {a : Act} {o : Oper} {v : AV}

/-- The operation yields what stands for v, and leaves the world alone. -/
def Yv (P : Program) (ρ : Ren) (a : Act) (w : World) (o : Oper) (v : AV) : Prop := ∃ v', (execOp a.eval o).run P w = .ok (.value v') w ∧ VR ρ v v'

theorem vBool {b : Bool} {x : Value} (hx : VR ρ (.bool b) x) : x = .bool b := by simpa only [VR] using hx
theorem vInt {k : IntKind} {n : Int} {x : Value} (hx : VR ρ (.int k n) x) : x = .int k n := by simpa only [VR] using hx
theorem vStr {l : List UInt8} {x : Value} (hx : VR ρ (.str l) x) : ∃ s : ByteArray, x = .string s ∧ s.data.toList = l := by simpa only [VR] using hx
theorem vPtr {q : Nat × Nat} {x : Value} (hx : VR ρ (.ptr (some q)) x) : ∃ p, ρ q.1 = some p ∧ x = .pointer (some ⟨p.1, p.2.1 + q.2, none⟩) := by simpa only [VR] using hx
theorem vNilPtr {x : Value} (hx : VR ρ (.ptr none) x) : x = .pointer none := by simpa only [VR] using hx
theorem vNilSl {l c : Nat} {e : Option Nat} {x : Value} (hx : VR ρ (.sl none l c e) x) : l = 0 ∧ c = 0 ∧ x = .slice none 0 0 := by simpa only [VR] using hx
theorem vSl {q : Nat × Nat} {l c : Nat} {e : Option Nat} {x : Value} (hx : VR ρ (.sl (some q) l c e) x) :
    ∃ p y c', ρ q.1 = some p ∧ x = .slice (some ⟨p.1, y, none⟩) l c' ∧ l ≤ c ∧ (y = p.2.1 + q.2 ∨ c' = 0) ∧ exR e c c' y p.2.2 := by simpa only [VR] using hx
theorem vAgg {l : List AV} {x : Value} (hx : VR ρ (.agg l) x) : ∃ cs : Array Value, x = .agg cs ∧ VRs ρ l cs.toList := by simpa only [VR] using hx
theorem vTup {l : List AV} {x : Value} (hx : VR ρ (.tup l) x) : ∃ cs : Array Value, x = .tuple cs ∧ VRs ρ l cs.toList := by simpa only [VR] using hx
theorem vMap {n : Nat} {x : Value} (hx : VR ρ (.map (some n)) x) : ∃ p, ρ n = some p ∧ x = .map (some p.1) := by simpa only [VR] using hx
theorem vNilMap {x : Value} (hx : VR ρ (.map none) x) : x = .map none := by simpa only [VR] using hx
theorem vFn {f : Nat} {l : List AV} {x : Value} (hx : VR ρ (.fn f l) x) : ∃ cs : Array Value, x = .func (.func f) #[] cs ∧ VRs ρ l cs.toList := by simpa only [VR] using hx
theorem vYield {n : Nat} {x : Value} (hx : VR ρ (.yield n) x) : ∃ p, ρ n = some p ∧ x = .func (.yield p.1) #[] #[] := by simpa only [VR] using hx
theorem vNilF {x : Value} (hx : VR ρ .nilf x) : x = .nilFunc := by simpa only [VR] using hx
theorem rInt (k : IntKind) (n : Int) : VR ρ (.int k n) (.int k n) := by simp only [VR]
theorem rBool (b : Bool) : VR ρ (.bool b) (.bool b) := by simp only [VR]

theorem y_move {x : Operand} (ho : o.op = .move x ∨ o.op = .assign x) (hv : VR ρ v (a.eval x)) : Yv P ρ a w o v := by
  refine ⟨a.eval x, ?_, hv⟩
  rcases ho with ho | ho <;> simp [execOp, ho]

theorem y_pick {c x y : Operand} (ho : o.op = .pick c x y) {b : Bool} (hc : VR ρ (.bool b) (a.eval c)) (hv : VR ρ v (if b then a.eval x else a.eval y)) : Yv P ρ a w o v := by
  have e := vBool hc
  refine ⟨_, ?_, hv⟩
  simp [execOp, ho, e, asBool]

/-! build -/
theorem splice_length (l : List AV) (k : Nat) (vs : List AV) (hk : k + vs.length ≤ l.length) : (splice l k vs).length = l.length := by
  simp only [splice, List.length_append, List.length_take, List.length_drop]; omega

theorem splice_get (l : List AV) (k : Nat) (vs : List AV) (hk : k + vs.length ≤ l.length) (i : Nat) :
    (splice l k vs)[i]? = if i < k then l[i]? else if i < k + vs.length then vs[i - k]? else l[i]? := by
  unfold splice
  by_cases h1 : i < k
  · rw [if_pos h1, List.append_assoc, List.getElem?_append_left (by simp; omega), List.getElem?_take, if_pos h1]
  · rw [if_neg h1]
    by_cases h2 : i < k + vs.length
    · rw [if_pos h2, List.getElem?_append_left (by simp; omega), List.getElem?_append_right (by simp; omega)]
      congr 1; simp; omega
    · rw [if_neg h2, List.getElem?_append_right (by simp; omega), List.getElem?_drop]
      congr 1; simp; omega

theorem foldl_fill_get (off : Nat) : ∀ (vs : List Value) (j : Nat) (cs : Array Value) (i : Nat), off + j + vs.length ≤ cs.size →
    ((vs.zipIdx j).foldl (fun cs p => cs.setIfInBounds (off + p.2) p.1) cs)[i]? = if off + j ≤ i ∧ i < off + j + vs.length then vs[i - (off + j)]? else cs[i]? := by
  intro vs
  induction vs with
  | nil => intro j cs i _; simp; omega
  | cons v vs ih =>
    intro j cs i hs
    simp only [List.zipIdx_cons, List.foldl_cons, List.length_cons] at hs ⊢
    rw [ih (j + 1) _ i (by simp; omega)]
    by_cases h1 : off + (j + 1) ≤ i ∧ i < off + (j + 1) + vs.length
    · rw [if_pos h1, if_pos (by omega), show i - (off + j) = (i - (off + (j + 1))) + 1 by omega, List.getElem?_cons_succ]
    · rw [if_neg h1, Array.getElem?_setIfInBounds]
      by_cases h2 : off + j = i
      · subst h2
        rw [if_pos rfl, if_pos (by omega), if_pos (by omega)]
        simp
      · rw [if_neg h2, if_neg (by omega)]

theorem foldl_fill_size (off : Nat) : ∀ (vs : List Value) (j : Nat) (cs : Array Value), ((vs.zipIdx j).foldl (fun cs p => cs.setIfInBounds (off + p.2) p.1) cs).size = cs.size := by
  intro vs
  induction vs with
  | nil => intro j cs; rfl
  | cons v vs ih => intro j cs; simp only [List.zipIdx_cons, List.foldl_cons]; rw [ih]; simp

theorem arr_fold {vs : Array Value} {off : Nat} {cs : Array Value} :
    vs.zipIdx.foldl (fun cs p => cs.setIfInBounds (off + p.2) p.1) cs = (vs.toList.zipIdx).foldl (fun cs p => cs.setIfInBounds (off + p.2) p.1) cs := by
  rw [← Array.foldl_toList]; simp

/-- The cells of a value whose count is asked. -/
theorem VR.cells' {ρ : Ren} {a : AV} {v : Value} (h : VR ρ a v) {n : Nat} (hn : a.cells.length = n) (hf : a.cells.all AV.flat = true) : VRs ρ a.cells v.cells.toList := by
  refine h.cells ?_ ?_
  · intro l hl; subst hl; simp [AV.cells, AV.flat] at hf
  · intro hl; subst hl; simp [AV.cells, AV.flat] at hf

theorem splice_rel {ρ : Ren} {z : List AV} {zc : Array Value} {l : List AV} {vs : Array Value} {off : Nat} (hz : VRs ρ z zc.toList) (hv : VRs ρ l vs.toList) (hk : off + l.length ≤ z.length) :
    VRs ρ (splice z off l) (vs.zipIdx.foldl (fun cs p => cs.setIfInBounds (off + p.2) p.1) zc).toList := by
  have h1 := hz.length
  have h2 := hv.length
  simp only [Array.length_toList] at h1 h2
  refine VRs.of_get ?_ ?_
  · have hs := foldl_fill_size off vs.toList 0 zc
    rw [splice_length _ _ _ hk, arr_fold, h1, Array.length_toList]
    exact hs.symm
  · intro i b hb
    rw [splice_get _ _ _ hk] at hb
    have hg := foldl_fill_get off vs.toList 0 zc i (by simp; omega)
    rw [arr_fold]
    rw [show (List.foldl (fun cs p => cs.setIfInBounds (off + p.2) p.1) zc vs.toList.zipIdx).toList[i]? = (List.foldl (fun cs p => cs.setIfInBounds (off + p.2) p.1) zc vs.toList.zipIdx)[i]? by simp]
    rw [hg]
    simp only [Nat.add_zero, Array.length_toList]
    by_cases c1 : i < off
    · rw [if_pos c1] at hb
      rw [if_neg (by omega)]
      simpa using hz.get i b hb
    · rw [if_neg c1] at hb
      by_cases c2 : i < off + l.length
      · rw [if_pos c2] at hb
        rw [if_pos (by omega)]
        exact hv.get _ b hb
      · rw [if_neg c2] at hb
        rw [if_neg (by omega)]
        simpa using hz.get i b hb

theorem fill_rel {ρ : Ren} {P : Program} {place : Nat → Option (Nat × Nat)} {ev : Operand → Value} {eva : AO → AV} (hev : ∀ x, VR ρ (eva (cO P x)) (ev x)) :
    ∀ (ps : List (Nat × Operand)) (l : List (Nat × Nat × AO)) (z : List AV) (zc : Array Value) (r : List AV), cParts P place ps = some l → VRs ρ z zc.toList →
      fillA z (l.map fun p => (p.1, p.2.1, eva p.2.2)) = some r → ∃ rc, Instr.fill place zc (ps.map fun p => (p.1, ev p.2)) = some rc ∧ VRs ρ r rc.toList := by
  intro ps
  induction ps with
  | nil =>
    intro l z zc r hl hz hf
    simp only [cParts, Option.some.injEq] at hl
    subst hl
    simp only [List.map_nil, fillA, Option.some.injEq] at hf
    subst hf
    exact ⟨zc, rfl, hz⟩
  | cons p ps ih =>
    intro l z zc r hl hz hf
    obtain ⟨i, x⟩ := p
    simp only [cParts] at hl
    cases hp : place i with
    | none => simp [hp] at hl
    | some q =>
      cases hr : cParts P place ps with
      | none => simp [hp, hr] at hl
      | some l' =>
        obtain ⟨off, size⟩ := q
        simp only [hp, hr, Option.some.injEq] at hl
        subst hl
        simp only [List.map_cons, fillA] at hf
        split at hf
        · rename_i hc
          obtain ⟨hc1, hc2, hc3⟩ := hc
          have hx := (hev x).cells' hc1 hc3
          have hxl := hx.length
          have hzl := hz.length
          simp only [Array.length_toList] at hxl hzl
          obtain ⟨rc, hrc, hrr⟩ := ih l' _ _ r hr (splice_rel hz hx (by omega)) hf
          refine ⟨rc, ?_, hrr⟩
          simp only [List.map_cons, Instr.fill, hp]
          rw [if_neg]
          · exact hrc
          · simp only [Bool.or_eq_true, decide_eq_true_eq, bne_iff_ne, ne_eq]
            omega
        · cases hf

theorem y_build (H : HR P w0 ρ X h w) (ht : VRs ρ t a.tmps.toList) {ty : TypeId} {ps : Array (Nat × Operand)} (ho : o.op = .build ty ps) {op : AOp} (hc : cOp P (.build ty ps) = some op)
    (hq : qv h t op = some v) : Yv P ρ a w o v := by
  simp only [cOp] at hc
  cases hz : Tp.zeros P ty with
  | none => simp [hz] at hc
  | some z =>
    obtain ⟨zv, hz1, hz2, hz3⟩ := Tp.zeros_zero hz
    have hzr : VRs ρ z zv.cells.toList := by rw [hz2]; exact VRs.ofV1 ρ _
    have hfin : ∀ (place : Nat → Option (Nat × Nat)) (l : List (Nat × Nat × AO)), cParts P place ps.toList = some l → op = .build z l →
        (∀ rc, Instr.fill place zv.cells (ps.toList.map fun p => (p.1, a.eval p.2)) = some rc → P.built ty (ps.map fun p => (p.1, a.eval p.2)).toList = some rc) → Yv P ρ a w o v := by
      intro place l hl he hb
      subst he
      simp only [qv] at hq
      cases hf : fillA z (l.map fun p => (p.1, p.2.1, p.2.2.ev t)) with
      | none => simp [hf] at hq
      | some r =>
        simp only [hf, Option.map_some, Option.some.injEq] at hq
        subst hq
        obtain ⟨rc, hrc, hrr⟩ := fill_rel (P := P) (eva := AO.ev t) (fun x => H.ev ht x) ps.toList l z zv.cells r hl hzr hf
        refine ⟨.agg rc, ?_, by simp only [VR]; exact ⟨rc, rfl, hrr⟩⟩
        simp only [execOp, ho]
        simp only [Sem.run_bind, run_build w ty _ rc (hb rc hrc), Result.andThen_ok, Sem.run_pure]
    have hinfo : ∃ it, P.info? ty = some it ∧ it.zero = some zv := by
      unfold Tp.zero at hz1
      cases hi : P.info? ty with
      | none => simp [hi] at hz1
      | some it => exact ⟨it, rfl, by simpa [hi] using hz1⟩
    obtain ⟨it, hi1, hi2⟩ := hinfo
    cases hu : P.underlying ty with
    | none => simp [hz, hu] at hc
    | some d =>
      cases d <;> simp only [hz, hu] at hc <;> try (exact absurd hc (by simp))
      case struct fs =>
        cases hp : fs.toList.mapM (fun f => (P.info? f.type).map fun i => (f.offset, i.size)) with
        | none => simp [hp] at hc
        | some places =>
          simp only [hp] at hc
          cases hl : cParts P (fun i => places[i]?) ps.toList with
          | none => simp [hl] at hc
          | some l =>
            simp only [hl, Option.map_some, Option.some.injEq] at hc
            refine hfin _ l hl hc.symm fun rc hrc => ?_
            unfold Program.built
            simp only [hi1, hu, hi2, hp]
            simpa using hrc
      case array len e =>
        cases hs : Tp.size P e with
        | none => simp [hs] at hc
        | some s =>
          simp only [hs] at hc
          have hie : ∃ ie, P.info? e = some ie ∧ ie.size = s := by
            unfold Tp.size at hs
            cases hi : P.info? e with
            | none => simp [hi] at hs
            | some it => exact ⟨it, rfl, by simpa [hi] using hs⟩
          obtain ⟨ie, he1, he2⟩ := hie
          cases hl : cParts P (fun i => some (i * s, s)) ps.toList with
          | none => simp [hl] at hc
          | some l =>
            simp only [hl, Option.map_some, Option.some.injEq] at hc
            refine hfin _ l hl hc.symm fun rc hrc => ?_
            unfold Program.built
            simp only [hi1, hu, hi2, he1, he2]
            simpa using hrc

end
end Go.Am

/- The abstract machine against the model: maps, lengths, comparisons; all operations that leave the heap alone. Conditions: those that each lemma names. -/
import Derived.Test.YtmpdpcamgkndnaaGreatDoorAmOps5
import GoSem.Extern.BytealgCompare
set_option linter.constructorNameAsVariable false
set_option linter.unusedSimpArgs false
set_option linter.unusedVariables false
namespace Go.Am
open Go.RowKit (Below)

/-- The model's kinds of keys. -/
def FK.desc : FK → TypeDesc → Prop
  | .int, d => ∃ k, d = .int k
  | .str, d => d = .string
  | .bool, d => d = .bool

section
variable {P : Program} {w0 : World} {ρ : Ren} {X : Frm} {h : Heap} {w : World} {t : List AV} {a : Act} {o : Oper} {v : AV} {op : AOp}

theorem plainKey_desc {k : TypeId} {kd : FK} (hk : plainKey P k = some kd) : ∃ d, P.underlying k = some d ∧ kd.desc d := by
  unfold plainKey at hk
  split at hk
  · rename_i kk hd; cases hk; exact ⟨_, hd, _, rfl⟩
  · rename_i hd; cases hk; exact ⟨_, hd, rfl⟩
  · cases hk

theorem rCheckKey {kt : TypeId} {d : TypeDesc} {kd : FK} (hd : P.underlying kt = some d) (hk : kd.desc d) (e : Bool) (n : Nat) (x : Value) : (Instr.checkKey e (n + 1) kt x).run P w = .ok () w := by
  unfold Instr.checkKey
  cases kd with
  | int => obtain ⟨k, rfl⟩ := hk; simp [rUnderlying hd]
  | str => cases hk; simp [rUnderlying hd]
  | bool => cases hk; simp [rUnderlying hd]

theorem ba_beq (s s' : ByteArray) : (s == s') = (s.data.toList == s'.data.toList) := by
  obtain ⟨⟨l⟩⟩ := s
  obtain ⟨⟨l'⟩⟩ := s'
  show (Array.mk l == Array.mk l') = (l == l')
  rw [Bool.eq_iff_iff, beq_iff_eq, beq_iff_eq]
  simp

theorem sameNow_rel {kd : FK} {d : TypeDesc} (hk : kd.desc d) {x y : AV} {u v : Value} (hx : VR ρ x u) (hy : VR ρ y v) {b : Bool} (he : fkEq kd x y = some b) : Instr.sameNow d u v = some b := by
  unfold fkEq at he
  split at he
  · obtain ⟨k, rfl⟩ := hk
    split at he
    · rename_i hkk
      cases he
      rw [vInt hx, vInt hy]
      simp [Instr.sameNow, hkk]
    · cases he
  · cases hk
    cases he
    rw [vBool hx, vBool hy]
    simp [Instr.sameNow]
  · cases hk
    cases he
    obtain ⟨s, rfl, hs⟩ := vStr hx
    obtain ⟨s', rfl, hs'⟩ := vStr hy
    simp only [Instr.sameNow, Option.some.injEq]
    rw [← hs, ← hs', ba_beq]
  · cases he

theorem findNow_rel {kd : FK} {d : TypeDesc} (hk : kd.desc d) {x : AV} {u : Value} (hx : VR ρ x u) : ∀ (es : List (AV × AV × Nat)) (es' : List MapEntry) (i : Nat) (r : Option (Nat × AV)), ER ρ es es' →
    findK kd x es i = some r → ∃ r', Instr.findNow d u es' i = some r' ∧ (match r, r' with
      | none, none => True
      | some p, some p' => p.1 = p'.1 ∧ VR ρ p.2 p'.2 ∧ i ≤ p.1 ∧ p.1 - i < es.length ∧ ∃ e e', es[p.1 - i]? = some e ∧ es'[p.1 - i]? = some e' ∧ VR ρ e.1 e'.key ∧ e.2.2 = e'.born ∧ fkEq kd x e.1 = some true
      | _, _ => False)
  | [], [], i, r, _, h => by
    simp only [findK, Option.some.injEq] at h
    subst h
    exact ⟨none, rfl, trivial⟩
  | e :: es, e' :: es', i, r, hr, h => by
    obtain ⟨h1, h2, h3, h4⟩ := hr
    simp only [findK] at h
    cases hq : fkEq kd x e.1 with
    | none => simp [hq] at h
    | some b =>
      have hs := sameNow_rel hk hx h1 hq
      cases b with
      | true =>
        simp only [hq, Option.some.injEq] at h
        subst h
        refine ⟨some (i, e'.val), by simp [Instr.findNow, hs], rfl, h2, Nat.le_refl _, by simp, e, e', by simp, by simp, h1, h3, hq⟩
      | false =>
        simp only [hq] at h
        obtain ⟨r', g1, g2⟩ := findNow_rel hk hx es es' (i + 1) r h4 h
        refine ⟨r', by simp [Instr.findNow, hs, g1], ?_⟩
        cases r with
        | none =>
          cases r' with
          | none => trivial
          | some p' => exact g2.elim
        | some p =>
          cases r' with
          | none => exact g2.elim
          | some p' =>
            obtain ⟨a1, a2, a3, a4, e1, e1', a5, a6, a7, a8⟩ := g2
            refine ⟨a1, a2, by omega, by simp; omega, e1, e1', ?_, ?_, a7, a8⟩
            · rw [show p.1 - i = (p.1 - (i + 1)) + 1 by omega, List.getElem?_cons_succ]; exact a5
            · rw [show p.1 - i = (p.1 - (i + 1)) + 1 by omega, List.getElem?_cons_succ]; exact a6
  | [], _ :: _, _, _, r, _ => r.elim
  | _ :: _, [], _, _, r, _ => r.elim

theorem rFindKey {kt : TypeId} {d : TypeDesc} (hd : P.underlying kt = some d) {u : Value} {es : List MapEntry} {r : Option (Nat × Value)} (hf : Instr.findNow d u es 0 = some r) : (Instr.findKey kt u es).run P w = .ok r w := by
  unfold Instr.findKey
  simp [rUnderlying hd, hf]

theorem HR.mp (H : HR P w0 ρ X h w) {n : Nat} {es : List (AV × AV × Nat)} {c : Nat} (hg : h.mp n = some (es, c)) :
    h.get n = some (.map es c) ∧ ∃ p es', ρ n = some p ∧ w.heap[p.1]? = some (.map es' c) ∧ ER ρ es es'.toList ∧ w0.heap.size ≤ p.1 := by
  unfold Heap.mp at hg
  split at hg
  · rename_i es2 c2 hg'
    cases hg
    obtain ⟨p, hp, ⟨es', h1, h2⟩, hw⟩ := H.get hg'
    exact ⟨hg', p, es', hp, h1, h2, hw rfl⟩
  · cases hg

theorem rGetMap {r : Nat} {es : Array MapEntry} {c : Nat} (hh : w.heap[r]? = some (.map es c)) : (getObj r).run P w = .ok (.map es c) w := by
  simp [getObj, Sem.run, hh]

theorem ER.length {ρ : Ren} : ∀ {l : List (AV × AV × Nat)} {es : List MapEntry}, ER ρ l es → l.length = es.length
  | [], [], _ => rfl
  | a :: as, e :: es, r => by simp [ER.length r.2.2.2]
  | [], _ :: _, r => r.elim
  | _ :: _, [], r => r.elim

theorem y_lookup (H : HR P w0 ρ X h w) {ty kt el : TypeId} {x i : Operand} {ok : Bool} {kd : FK} {z : Value} {xa ka : AV} (ho : o.op = .lookup ty x i ok) (hu : P.underlying ty = some (.map kt el)) (hk : plainKey P kt = some kd)
    (hz : Tp.zero P el = some z) (hx : VR ρ xa (a.eval x)) (hi : VR ρ ka (a.eval i)) {es : List (AV × AV × Nat)}
    (he : h.mapEs xa = some es) {r : Option (Nat × AV)} (hf : findK kd ka es 0 = some r)
    (hv : v = (match r with
      | some (_, v) => if ok then .tup [v, .bool true] else v
      | none => if ok then .tup [AV.ofV z, .bool false] else AV.ofV z)) : Yv P ρ a w o v := by
  obtain ⟨d, hd, hkd⟩ := plainKey_desc hk
  have main : ∀ es' : Array MapEntry, ER ρ es es'.toList → (∀ k : Sem Value, ∀ K : Array MapEntry → Sem Value, True) →
      ∃ v', (do
        Instr.checkKey es'.isEmpty 10000 kt (a.eval i)
        let (v, ok') ← match ← Instr.findKey kt (a.eval i) es'.toList with
          | some (_, v) => pure (v, true)
          | none => pure (← zeroValue el, false)
        pure (if ok then Value.tuple #[v, .bool ok'] else v) : Sem Value).run P w = .ok v' w ∧ VR ρ v v' := by
    intro es' hes _
    obtain ⟨r', g1, g2⟩ := findNow_rel hkd hi es es'.toList 0 r hes hf
    cases r with
    | none =>
      cases r' with
      | none =>
        subst hv
        refine ⟨if ok then .tuple #[z, .bool false] else z, ?_, ?_⟩
        · simp only [Sem.run_bind, rCheckKey hd hkd, Result.andThen_ok, rFindKey hd g1, rZero hz, Sem.run_pure]
        · cases ok
          · simpa using VR.ofV ρ z
          · simp only [if_true, VR]
            exact ⟨_, rfl, by simp [VRs, VR.ofV, VR]⟩
      | some p => exact g2.elim
    | some p =>
      cases r' with
      | none => exact g2.elim
      | some p' =>
        subst hv
        refine ⟨if ok then .tuple #[p'.2, .bool true] else p'.2, ?_, ?_⟩
        · simp only [Sem.run_bind, rCheckKey hd hkd, Result.andThen_ok, rFindKey hd g1, Sem.run_pure]
        · cases ok
          · simpa using g2.2.1
          · simp only [if_true, VR]
            exact ⟨_, rfl, by simp [VRs, g2.2.1, VR]⟩
  cases xa with
  | map q =>
    cases q with
    | none =>
      simp only [Heap.mapEs, Option.some.injEq] at he
      subst he
      have ex := vNilMap hx
      obtain ⟨v', g1, g2⟩ := main #[] (by simp [ER]) (fun _ _ => trivial)
      refine ⟨v', ?_, g2⟩
      simp only [execOp, ho, ex, Instr.lookup, Sem.run_bind, rUnderlying hu, Result.andThen_ok, Sem.run_pure]
      simp only [Sem.run_bind] at g1
      exact congrArg (fun r : Result Value => r.andThen fun a w' => Result.ok (Next.value a) w') g1
    | some n =>
      obtain ⟨p, hp, ex⟩ := vMap hx
      simp only [Heap.mapEs] at he
      cases hm : h.mp n with
      | none => simp [hm] at he
      | some q =>
        obtain ⟨es2, c⟩ := q
        simp only [hm, Option.map_some, Option.some.injEq] at he
        subst he
        obtain ⟨_, p', es', f1, f2, f3, _⟩ := H.mp hm
        rw [hp] at f1; cases f1
        obtain ⟨v', g1, g2⟩ := main es' f3 (fun _ _ => trivial)
        refine ⟨v', ?_, g2⟩
        simp only [execOp, ho, ex, Instr.lookup, Sem.run_bind, rUnderlying hu, Result.andThen_ok, Sem.run_pure, rGetMap f2]
        simp only [Sem.run_bind] at g1
        exact congrArg (fun r : Result Value => r.andThen fun a w' => Result.ok (Next.value a) w') g1
  | _ => simp [Heap.mapEs] at he

end
end Go.Am

/- The abstract machine against the model: copy, clear, maps, iterators, frozen rows. Conditions: those that each lemma names. -/
import Derived.Test.YtmpdpcamgkndnaaGreatDoorAmEff3
import Derived.Maps.RangeRun
set_option linter.constructorNameAsVariable false
set_option linter.unusedSimpArgs false
set_option linter.unusedVariables false
namespace Go.Am
open Go.RowKit (Below)
open Go.ChangeMaps (setBlock)

section
variable {P : Program} {w0 : World} {ρ : Ren} {X : Frm} {h h' : Heap} {w : World} {t : List AV} {a : Act} {o : Oper} {v : AV} {op : AOp}


theorem e_copy (H : HR P w0 ρ X h w) (ht : VRs ρ t a.tmps.toList) {c : Call} {x y : Operand} {e s : Nat} {K : AV → Heap → Prop} {fns : Nat → Option AFn} {rec : Rec} (ho : o.op = .call c) (hcal : c.callee = .builtin .copy)
    (hargs : c.args.toList = [x, y]) (hty0 : (c.argTypes[0]?).bind P.underlying = some (.slice e)) (hs : Tp.size P e = some s)
    (hq : aeff fns rec t h K (.copy s (cO P x) (cO P y))) : Did P w0 ρ X a w o K := by
  obtain ⟨ty, h1, h2⟩ := argTy hty0
  have hx := H.ev ht x
  have hy := H.ev ht y
  have hrun : ∀ r w', (Builtin.copy_ c.argTypes o.type #[a.eval x, a.eval y]).run P w = .ok r w' → (execOp a.eval o).run P w = .ok (.value r) w' := by
    intro r w' hr
    rw [execBuiltin ho hcal, arr_two hargs]
    simp only [builtin, List.map_toArray, List.map_cons, List.map_nil, Sem.run_bind, hr, Result.andThen_ok, Sem.run_pure]
  simp only [aeff] at hq
  split at hq
  · rename_i q dl cap ex hxe
    rw [hxe] at hx
    split at hq
    · rename_i n y' hye
      split at hq
      · rename_i new hnew
        split at hq
        · rename_i h2' hst
          have key : (Builtin.lenOf (a.eval y)).run P w = .ok n w ∧ ∃ vs : List Value, (Builtin.firstCells s (Nat.min n dl) (a.eval y)).run P w = .ok vs.toArray w ∧ VRs ρ new vs ∧ vs.length = Nat.min n dl * s := by
            unfold srcCut at hye
            split at hye
            · rename_i b m cp ex' hyv
              cases hye
              rw [hyv] at hy
              cases b with
              | none =>
                obtain ⟨g1, g2, g3⟩ := vNilSl hy
                subst g1
                have h0 : Nat.min 0 dl = 0 := Nat.zero_min dl
                simp only [Heap.slCells, Option.some.injEq] at hnew
                subst hnew
                rw [g3]
                exact ⟨by simp [Builtin.lenOf], [], by simp [Builtin.firstCells], by simp [VRs], by simp [h0]⟩
              | some b =>
                obtain ⟨p, yy, c', g1, g2, g3, g4, g5⟩ := vSl hy
                refine ⟨by rw [g2]; simp [Builtin.lenOf], ?_⟩
                have hle : Nat.min n dl ≤ n := Nat.min_le_left n dl
                have hy2 : VR ρ (.sl (some b) (Nat.min n dl) (Nat.min n dl) ex') (.slice (some ⟨p.1, yy, none⟩) (Nat.min n dl) (if ex' = none then Nat.min n dl else c')) := by
                  simp only [VR]
                  refine ⟨p, yy, _, g1, rfl, Nat.le_refl _, ?_, ?_⟩
                  · rcases g4 with g4 | g4
                    · exact .inl g4
                    · right
                      unfold exR at g5
                      cases ex' with
                      | none => simp only at g5; simp; omega
                      | some es => simp; exact g4
                  · unfold exR at g5 ⊢
                    cases ex' with
                    | none => simp
                    | some es => simp only at g5 ⊢; simp; exact ⟨by omega, g5.2⟩
                obtain ⟨os, k1, k2, k3⟩ := AppOld (P := P) (cap' := 0) H hy2 hnew
                refine ⟨os, ?_, k1, k2⟩
                have := k3 w rfl
                rw [g2]
                simpa only [Builtin.firstCells] using this
            · rename_i l hyv
              cases hye
              rw [hyv] at hy
              obtain ⟨sv, e1, e2⟩ := vStr hy
              simp only [Heap.slCells] at hnew
              split at hnew
              · rename_i hs1
                cases hnew
                subst hs1
                refine ⟨by rw [e1]; simp [Builtin.lenOf, ← e2], (l.take (Nat.min l.length dl)).map fun b => Value.int .u8 b.toNat, ?_, ofBytes_rel _, by simp⟩
                rw [e1]
                simp only [Builtin.firstCells, Sem.run_pure]
                congr 1
                apply Array.ext'
                simp [← e2, ByteArray.data_extract]
              · cases hnew
            · cases hye
          obtain ⟨k1, vs, k2, k3, k4⟩ := key
          cases q with
          | none =>
            simp only [Option.some.injEq] at hst
            subst hst
            obtain ⟨g1, g2, g3⟩ := vNilSl hx
            refine ⟨_, goInt (Nat.min n dl), w, _, h, ρ, hrun _ _ ?_, .inl rfl, hq, Ren.le_refl _, H, by simp [VR, goInt]⟩
            rw [g3]
            rw [g1] at k2 ⊢
            simp only [Builtin.copy_, h1, List.getElem?_toArray, List.getElem?_cons_zero, List.getElem?_cons_succ, Sem.run_bind, rUnderlying h2, Result.andThen_ok, k1, rSize hs, k2, Sem.run_pure]
          | some q =>
            obtain ⟨p, yy, c', g1, g2, g3, g4, g5⟩ := vSl hx
            have hstore : ∃ w', (storeCells ⟨p.1, yy, none⟩ vs).run P w = .ok () w' ∧ HR P w0 ρ X h2' w' := by
              rcases g4 with g4 | g4
              · subst g4
                exact H.stN (n := q.1) (o := q.2) g1 hst k3
              · have hdl : dl = 0 := by
                  unfold exR at g5
                  cases ex with
                  | none => simp only at g5; omega
                  | some es => simp only at g5; omega
                have h0 : Nat.min n dl = 0 := by rw [hdl]; exact Nat.min_zero n
                have hvn : vs = [] := List.eq_nil_of_length_eq_zero (by rw [k4, h0]; simp)
                have hnn : new = [] := List.eq_nil_of_length_eq_zero (by rw [k3.length, hvn]; rfl)
                subst hvn hnn
                simp only [Heap.stN, Option.some.injEq] at hst
                subst hst
                exact ⟨w, by simp [storeCells], H⟩
            obtain ⟨w', j1, j2⟩ := hstore
            refine ⟨_, goInt (Nat.min n dl), w', _, h2', ρ, hrun _ _ ?_, .inl rfl, hq, Ren.le_refl _, j2, by simp [VR, goInt]⟩
            rw [g2]
            simp only [Builtin.copy_, h1, List.getElem?_toArray, List.getElem?_cons_zero, List.getElem?_cons_succ, Sem.run_bind, rUnderlying h2, Result.andThen_ok, k1, rSize hs, k2, Sem.run_pure, j1]
        · exact hq.elim
      · exact hq.elim
    · exact hq.elim
  · exact hq.elim

theorem zeroCells_rel {z : List AV} {zc : Array Value} (hz : VRs ρ z zc.toList) (n : Nat) : VRs ρ (List.replicate n z).flatten (Builtin.zeroCells zc n).toList := by
  have hl := hz.length
  simp only [Array.length_toList] at hl
  refine VRs.of_get (by simp [Builtin.zeroCells, hl]) fun i b hb => ?_
  have hi : i < n * z.length := by
    have := (List.getElem?_eq_some_iff.1 hb).1
    rw [flat_len] at this; exact this
  rw [flat_get z n i hi] at hb
  obtain ⟨v, hv, hr⟩ := hz.get _ b hb
  refine ⟨v, ?_, hr⟩
  have hzl : 0 < z.length := by
    rcases Nat.eq_zero_or_pos z.length with hz0 | hz0
    · rw [hz0] at hi; simp at hi
    · exact hz0
  have hm : i % zc.size < zc.size := Nat.mod_lt _ (by omega)
  have hv' : zc[i % zc.size] = v := by
    rw [hl, List.getElem?_eq_some_iff] at hv
    obtain ⟨_, hv⟩ := hv
    simpa using hv
  simp only [Builtin.zeroCells, Array.toList_map, Array.toList_range, List.getElem?_map, List.getElem?_range (show i < n * zc.size by rw [← hl]; exact hi), Option.map_some, Option.some.injEq]
  rw [getElem!_pos zc _ hm]
  exact hv'

theorem e_clear (H : HR P w0 ρ X h w) (ht : VRs ρ t a.tmps.toList) {c : Call} {x : Operand} {e s : Nat} {z : List AV} {K : AV → Heap → Prop} {fns : Nat → Option AFn} {rec : Rec} (ho : o.op = .call c) (hcal : c.callee = .builtin .clear)
    (hargs : c.args.toList = [x]) (hty0 : (c.argTypes[0]?).bind P.underlying = some (.slice e)) (hz : Tp.zeros P e = some z)
    (hq : aeff fns rec t h K (.clear s z (cO P x))) : Did P w0 ρ X a w o K := by
  obtain ⟨ty, h1, h2⟩ := argTy hty0
  obtain ⟨zv, hz1, hz2, hz3⟩ := Tp.zeros_zero hz
  have hx := H.ev ht x
  have hrun : ∀ w', (Builtin.clear_ c.argTypes o.type #[a.eval x]).run P w = .ok undef w' → (execOp a.eval o).run P w = .ok (.value undef) w' := by
    intro w' hr
    rw [execBuiltin ho hcal, arr_one hargs]
    simp only [builtin, List.map_toArray, List.map_cons, List.map_nil, Sem.run_bind, hr, Result.andThen_ok, Sem.run_pure]
  simp only [aeff] at hq
  split at hq
  · rename_i hxe
    rw [hxe] at hx
    obtain ⟨g1, g2, g3⟩ := vNilSl hx
    refine ⟨_, undef, w, _, h, ρ, hrun _ ?_, .inl rfl, hq, Ren.le_refl _, H, VR.undef _⟩
    rw [g3]
    simp [Builtin.clear_, h1, rUnderlying h2, undef]
  · rename_i q n cp ex hxe
    rw [hxe] at hx
    split at hq
    · rename_i hzs
      split at hq
      · rename_i h2' hst
        obtain ⟨p, yy, c', g1, g2, g3, g4, g5⟩ := vSl hx
        have hzr := zeroCells_rel (ρ := ρ) (z := z) (zc := zv.cells) (by rw [hz2]; exact VRs.ofV1 ρ _) n
        rcases Nat.eq_zero_or_pos n with hn | hn
        · subst hn
          simp only [List.replicate_zero, List.flatten_nil, Heap.stN, Option.some.injEq] at hst
          subst hst
          refine ⟨_, undef, w, _, h, ρ, hrun _ ?_, .inl rfl, hq, Ren.le_refl _, H, VR.undef _⟩
          rw [g2]
          simp [Builtin.clear_, h1, rUnderlying h2, undef]
        · have hy : yy = p.2.1 + q.2 := by
            rcases g4 with g4 | g4
            · exact g4
            · unfold exR at g5
              cases ex with
              | none => simp only at g5; omega
              | some es => simp only at g5; omega
          subst hy
          obtain ⟨w', k1, k2⟩ := H.stN (n := q.1) (o := q.2) g1 hst hzr
          refine ⟨_, undef, w', _, h2', ρ, hrun _ ?_, .inl rfl, hq, Ren.le_refl _, k2, VR.undef _⟩
          rw [g2]
          obtain ⟨m, rfl⟩ : ∃ m, n = m + 1 := ⟨n - 1, by omega⟩
          simp [Builtin.clear_, h1, rUnderlying h2, undef, rZero hz1, k1]
      · exact hq.elim
    · exact hq.elim
  · exact hq.elim

theorem same_bits {kd : FK} {x y : AV} {u v : Value} (hx : VR ρ x u) (hy : VR ρ y v) (he : fkEq kd x y = some true) : Instr.sameBits 10000 v u = true := by
  unfold fkEq at he
  split at he
  · split at he
    · rename_i hkk
      rw [vInt hx, vInt hy]
      simp_all [Instr.sameBits]
    · cases he
  · rw [vBool hx, vBool hy]
    simp_all [Instr.sameBits]
  · obtain ⟨s, rfl, hs⟩ := vStr hx
    obtain ⟨s', rfl, hs'⟩ := vStr hy
    simp only [Instr.sameBits]
    rw [ba_beq, hs, hs']
    simp_all
  · cases he

theorem ER.set {es : List (AV × AV × Nat)} {es' : List MapEntry} (he : ER ρ es es') {i : Nat} {e : AV × AV × Nat} {e' : MapEntry} (h1 : VR ρ e.1 e'.key) (h2 : VR ρ e.2.1 e'.val) (h3 : e.2.2 = e'.born) : ER ρ (es.set i e) (es'.set i e') := by
  induction es generalizing es' i with
  | nil => cases es' with
    | nil => trivial
    | cons _ _ => exact he.elim
  | cons x es ih => cases es' with
    | nil => exact he.elim
    | cons x' es' =>
      obtain ⟨a1, a2, a3, a4⟩ := he
      cases i with
      | zero => exact ⟨h1, h2, h3, a4⟩
      | succ i => exact ⟨a1, a2, a3, ih a4⟩

theorem ER.append {es : List (AV × AV × Nat)} {es' : List MapEntry} (he : ER ρ es es') {e : AV × AV × Nat} {e' : MapEntry} (h1 : VR ρ e.1 e'.key) (h2 : VR ρ e.2.1 e'.val) (h3 : e.2.2 = e'.born) : ER ρ (es ++ [e]) (es' ++ [e']) := by
  induction es generalizing es' with
  | nil => cases es' with
    | nil => exact ⟨h1, h2, h3, trivial⟩
    | cons _ _ => exact he.elim
  | cons x es ih => cases es' with
    | nil => exact he.elim
    | cons x' es' =>
      obtain ⟨a1, a2, a3, a4⟩ := he
      exact ⟨a1, a2, a3, ih a4⟩

theorem ER.erase {es : List (AV × AV × Nat)} {es' : List MapEntry} (he : ER ρ es es') {i : Nat} : ER ρ (es.eraseIdx i) (es'.eraseIdx i) := by
  induction es generalizing es' i with
  | nil => cases es' with
    | nil => trivial
    | cons _ _ => exact he.elim
  | cons x es ih => cases es' with
    | nil => exact he.elim
    | cons x' es' =>
      obtain ⟨a1, a2, a3, a4⟩ := he
      cases i with
      | zero => exact a4
      | succ i => exact ⟨a1, a2, a3, ih a4⟩

theorem rSetMap {r : Nat} {es : Array MapEntry} {clock : Nat} {o : Obj} (hb : w.heap[r]? = some (.map es clock)) : (setObj r o).run P w = .ok () { w with heap := w.heap.setIfInBounds r o } := by
  simp [setObj, Sem.run, hb]

theorem e_mapUpd (H : HR P w0 ρ X h w) (ht : VRs ρ t a.tmps.toList) {ty kt et : TypeId} {m k x : Operand} {kd : FK} {K : AV → Heap → Prop} {fns : Nat → Option AFn} {rec : Rec} (ho : o.op = .mapUpdate ty m k x ∨ o.op = .insert ty m k x)
    (hu : P.underlying ty = some (.map kt et)) (hk : plainKey P kt = some kd) (hq : aeff fns rec t h K (.mapUpd kd (cO P m) (cO P k) (cO P x))) : Did P w0 ρ X a w o K := by
  have hm := H.ev ht m
  have hkk := H.ev ht k
  have hx := H.ev ht x
  obtain ⟨d, hd, hdk⟩ := plainKey_desc hk
  have hrun : ∀ w', (Instr.mapUpdate ty (a.eval m) (a.eval k) (a.eval x)).run P w = .ok () w' → (execOp a.eval o).run P w = .ok .skip w' := by
    intro w' hr
    rcases ho with ho | ho <;> simp only [execOp, ho, Sem.run_bind, hr, Result.andThen_ok, Sem.run_pure]
  simp only [aeff] at hq
  split at hq
  · rename_i r hme
    rw [hme] at hm
    obtain ⟨p, g1, g2⟩ := vMap hm
    split at hq
    · rename_i es clock hmp
      obtain ⟨hg, p', es', f1, f2, f3, f4⟩ := H.mp hmp
      rw [g1] at f1; cases f1
      split at hq
      · rename_i i vv hf
        split at hq
        · rename_i e he
          obtain ⟨r', k1, k2⟩ := findNow_rel hdk hkk es es'.toList 0 _ f3 hf
          cases r' with
          | none => exact k2.elim
          | some r' =>
            obtain ⟨j1, j2, j3, j4, e1, e1', j5, j6, j7, j8, j9⟩ := k2
            simp only [Nat.sub_zero] at j5 j6
            rw [he] at j5; cases j5
            have hi : r'.1 = i := j1.symm
            have j6' : es'[i]? = some e1' := by simpa using j6
            have hlt : i < es'.size := (Array.getElem?_eq_some_iff.1 j6').1
            have hmod : (es'.modify i fun e => { e with key := a.eval k, val := a.eval x }) = es'.setIfInBounds i { e1' with key := a.eval k, val := a.eval x } := by
              apply Array.ext_getElem?
              intro j
              rw [Array.getElem?_modify, Array.getElem?_setIfInBounds]
              by_cases hj : i = j
              · subst hj; rw [if_pos rfl, if_pos rfl, if_pos hlt, j6']; rfl
              · rw [if_neg hj, if_neg hj]
            refine ⟨.skip, undef, { w with heap := w.heap.setIfInBounds p.1 (.map (es'.setIfInBounds i { e1' with key := a.eval k, val := a.eval x }) clock) }, _, _, ρ, hrun _ ?_, .inr ⟨rfl, rfl⟩, hq, Ren.le_refl _, H.upd hg rfl g1 rfl rfl rfl rfl ⟨_, rfl, ?_⟩, VR.undef _⟩
            · rw [g2]
              have hsb := same_bits hkk j7 j9
              simp only [Instr.mapUpdate, Sem.run_bind, rUnderlying hu, Result.andThen_ok, rGetMap f2, rCheckKey hd hdk, rFindKey hd k1, hi, Instr.keyThatStays, j6', Option.map_some, Option.getD_some, hsb, if_true, Sem.run_pure, rSetMap f2, hmod]
            · simp only [Array.toList_setIfInBounds]
              exact ER.set f3 hkk hx j8
        · exact hq.elim
      · rename_i hf
        obtain ⟨r', k1, k2⟩ := findNow_rel hdk hkk es es'.toList 0 _ f3 hf
        cases r' with
        | some r' => exact k2.elim
        | none =>
          refine ⟨.skip, undef, { w with heap := w.heap.setIfInBounds p.1 (.map (es'.push { key := a.eval k, val := a.eval x, born := clock }) (clock + 1)) }, _, _, ρ, hrun _ ?_, .inr ⟨rfl, rfl⟩, hq, Ren.le_refl _, H.upd hg rfl g1 rfl rfl rfl rfl ⟨_, rfl, ?_⟩, VR.undef _⟩
          · rw [g2]
            simp only [Instr.mapUpdate, Sem.run_bind, rUnderlying hu, Result.andThen_ok, rGetMap f2, rCheckKey hd hdk, rFindKey hd k1, rSetMap f2]
          · simp only [Array.toList_push]
            exact ER.append f3 hkk hx rfl
      · exact hq.elim
    · exact hq.elim
  · exact hq.elim

theorem e_delete (H : HR P w0 ρ X h w) (ht : VRs ρ t a.tmps.toList) {c : Call} {kt et : TypeId} {m k : Operand} {kd : FK} {K : AV → Heap → Prop} {fns : Nat → Option AFn} {rec : Rec} (ho : o.op = .call c) (hcal : c.callee = .builtin .delete)
    (hargs : c.args.toList = [m, k]) (hty0 : (c.argTypes[0]?).bind P.underlying = some (.map kt et)) (hk : plainKey P kt = some kd) (hq : aeff fns rec t h K (.delete kd (cO P m) (cO P k))) : Did P w0 ρ X a w o K := by
  obtain ⟨ty, h1, h2⟩ := argTy hty0
  have hm := H.ev ht m
  have hkk := H.ev ht k
  obtain ⟨d, hd, hdk⟩ := plainKey_desc hk
  have hrun : ∀ w', (Builtin.delete_ c.argTypes o.type #[a.eval m, a.eval k]).run P w = .ok undef w' → (execOp a.eval o).run P w = .ok (.value undef) w' := by
    intro w' hr
    rw [execBuiltin ho hcal, arr_two hargs]
    simp only [builtin, List.map_toArray, List.map_cons, List.map_nil, Sem.run_bind, hr, Result.andThen_ok, Sem.run_pure]
  simp only [aeff] at hq
  split at hq
  · rename_i hme
    rw [hme] at hm
    simp only [VR] at hm
    refine ⟨_, undef, w, _, h, ρ, hrun _ ?_, .inl rfl, hq, Ren.le_refl _, H, VR.undef _⟩
    rw [hm]
    simp only [Builtin.delete_, h1, List.getElem?_toArray, List.getElem?_cons_zero, List.getElem?_cons_succ, Sem.run_bind, rUnderlying h2, Result.andThen_ok, rCheckKey hd hdk, Sem.run_pure, undef]
  · rename_i r hme
    rw [hme] at hm
    obtain ⟨p, g1, g2⟩ := vMap hm
    split at hq
    · rename_i es clock hmp
      obtain ⟨hg, p', es', f1, f2, f3, f4⟩ := H.mp hmp
      rw [g1] at f1; cases f1
      split at hq
      · rename_i i vv hf
        obtain ⟨r', k1, k2⟩ := findNow_rel hdk hkk es es'.toList 0 _ f3 hf
        cases r' with
        | none => exact k2.elim
        | some r' =>
          have hi : r'.1 = i := k2.1.symm
          refine ⟨_, undef, { w with heap := w.heap.setIfInBounds p.1 (.map (es'.eraseIdxIfInBounds i) clock) }, _, _, ρ, hrun _ ?_, .inl rfl, hq, Ren.le_refl _, H.upd hg rfl g1 rfl rfl rfl rfl ⟨_, rfl, ?_⟩, VR.undef _⟩
          · rw [g2]
            simp only [Builtin.delete_, h1, List.getElem?_toArray, List.getElem?_cons_zero, List.getElem?_cons_succ, Sem.run_bind, rUnderlying h2, Result.andThen_ok, rGetMap f2, rCheckKey hd hdk, rFindKey hd k1, hi, rSetMap f2, Sem.run_pure, undef]
          · have : (es'.eraseIdxIfInBounds i).toList = es'.toList.eraseIdx i := by
              unfold Array.eraseIdxIfInBounds
              split
              · simp
              · rename_i hlt
                rw [List.eraseIdx_of_length_le (by simpa using hlt)]
            rw [this]
            exact ER.erase f3
      · rename_i hf
        obtain ⟨r', k1, k2⟩ := findNow_rel hdk hkk es es'.toList 0 _ f3 hf
        cases r' with
        | some r' => exact k2.elim
        | none =>
          have hsame : { w with heap := w.heap.setIfInBounds p.1 (.map es' clock) } = w := by
            rw [set_same _ _ _ f2]
          refine ⟨_, undef, w, _, h, ρ, hrun _ ?_, .inl rfl, hq, Ren.le_refl _, H, VR.undef _⟩
          rw [g2]
          simp only [Builtin.delete_, h1, List.getElem?_toArray, List.getElem?_cons_zero, List.getElem?_cons_succ, Sem.run_bind, rUnderlying h2, Result.andThen_ok, rGetMap f2, rCheckKey hd hdk, rFindKey hd k1, rSetMap f2, Sem.run_pure, undef, hsame]
      · exact hq.elim
    · exact hq.elim
  · exact hq.elim

end
end Go.Am

/- The abstract machine against the model: append, joined. Conditions: those that each lemma names. -/
import Derived.Test.YtmpdpcamgkndnaaGreatDoorAmEff2
set_option linter.constructorNameAsVariable false
set_option linter.unusedSimpArgs false
set_option linter.unusedVariables false
namespace Go.Am
open Go.RowKit (Below)

section
variable {P : Program} {w0 : World} {ρ : Ren} {X : Frm} {h h' : Heap} {w : World} {t : List AV} {a : Act} {o : Oper} {v : AV} {op : AOp}

theorem AppOld (H : HR P w0 ρ X h w) {size len cap cap' : Nat} {q : Option (Nat × Nat)} {ex : Option Nat} {u : Value} (hx : VR ρ (.sl q len cap ex) u) {old : List AV} (ho : h.slCells size (.sl q len cap ex) = some old) :
    ∃ os : List Value, VRs ρ old os ∧ os.length = len * size ∧ ∀ w' : World, w'.heap = w.heap → (Builtin.firstCells size len u).run P w' = .ok os.toArray w' := by
  cases q with
  | none =>
    obtain ⟨g1, g2, g3⟩ := vNilSl hx
    simp only [Heap.slCells, Option.some.injEq] at ho
    subst ho g1
    exact ⟨[], by simp [VRs], by simp, fun w' _ => by rw [g3]; simp [Builtin.firstCells]⟩
  | some q =>
    obtain ⟨p, y, c', g1, g2, g3, g4, g5⟩ := vSl hx
    simp only [Heap.slCells] at ho
    split at ho
    · rename_i h0
      cases ho
      exact ⟨[], by simp [VRs], by simp [h0], fun w' _ => by rw [g2]; simp only [Builtin.firstCells, h0]; simp [loadCells, loadCellsFrom]⟩
    · rename_i h0
      obtain ⟨p', vs, k1, k2, k3, k4⟩ := H.ldN (n := q.1) (o := q.2) ho
      rw [g1] at k1; cases k1
      have hn : 0 < len := by
        rcases Nat.eq_zero_or_pos len with hz | hz
        · subst hz; simp at h0
        · exact hz
      have hy : y = p.2.1 + q.2 := by
        rcases g4 with g4 | g4
        · exact g4
        · unfold exR at g5
          cases ex with
          | none => simp only at g5; omega
          | some es => simp only at g5; omega
      subst hy
      refine ⟨vs, k4, k2, fun w' hw' => ?_⟩
      rw [g2]
      simp only [Builtin.firstCells]
      refine rLoadCells k2 fun j v hj => ?_
      have := k3 j v hj
      unfold World.cell? at this ⊢
      rw [hw']; exact this

theorem AppNew (H : HR P w0 ρ X h w) {size n : Nat} {y : AV} {u : Value} (hy : VR ρ y u) {l : List AV} (hl : h.slCells size y = some l) (hn : srcLen y = some n) :
    ∃ vs : List Value, VRs ρ l vs ∧ vs.length = n * size ∧ ∀ w' : World, w'.heap = w.heap → (Builtin.firstCells size n u).run P w' = .ok vs.toArray w' := by
  cases y with
  | sl q len cap ex =>
    simp only [srcLen, Option.some.injEq] at hn
    subst hn
    obtain ⟨os, h1, h2, h3⟩ := AppOld (P := P) (cap' := 0) H hy hl
    exact ⟨os, h1, h2, h3⟩
  | str s =>
    obtain ⟨_, vs, g1, g2, g3⟩ := rSrc (P := P) H hy hl hn
    obtain ⟨sv, e1, e2⟩ := vStr hy
    refine ⟨vs, g2, g3, fun w' _ => ?_⟩
    subst e1
    simp only [Builtin.firstCells, Sem.run_pure] at g1 ⊢
    cases hr : (Result.ok (Array.map (fun b => Value.int IntKind.u8 ↑b.toNat) (sv.extract 0 n).data) w) with
    | ok x y => simp_all
    | halt x y => simp_all
  | _ => simp [srcLen] at hn

theorem zc_size (z : Array Value) (n : Nat) : (Builtin.zeroCells z n).size = n * z.size := by simp [Builtin.zeroCells]

/-- A new block of what was and what comes. -/
theorem AppBlk {e n s cp need : Nat} {old new : List AV} {os vs : List Value} {zc : Array Value} (ho : VRs ρ old os) (hv : VRs ρ new vs) (hn : ρ n = none) (r sz : Nat) (hsz : sz = os.length + vs.length + (cp - need) * zc.size) :
    BR P (ρ.put n (r, 0, sz)) (r, 0, sz) (.cells e (old ++ new) false) (some (.cells (os.toArray ++ vs.toArray ++ Builtin.zeroCells zc (cp - need)) e)) := by
  have h1 := ho.length
  have h2 := hv.length
  refine ⟨_, 0, 0, rfl, ?_, .inl rfl, ?_, ?_⟩
  · simp only [Array.size_append, List.size_toArray, zc_size, hsz]
  · simp only [Array.size_append, List.size_toArray, zc_size, List.length_append]; omega
  · have : ((os.toArray ++ vs.toArray ++ Builtin.zeroCells zc (cp - need)).toList.drop 0).take (old ++ new).length = os ++ vs := by
      simp only [List.drop_zero, Array.toList_append]
      rw [List.take_append_of_le_length (by simp; omega), List.take_of_length_le (by simp; omega)]
    rw [this]
    exact (ho.append hv).mono (Ren.le_put hn)

theorem cells_size {e s : Nat} {z : List AV} {zv : Value} (hz2 : z = zv.cells.toList.map AV.ofV1) (hl : z.length = s) : zv.cells.size = s := by
  rw [hz2] at hl; simpa using hl

theorem e_append (H : HR P w0 ρ X h w) (ht : VRs ρ t a.tmps.toList) {c : Call} {x y : Operand} {e s by_ : Nat} {z : List AV} {K : AV → Heap → Prop} {fns : Nat → Option AFn} {rec : Rec} (ho : o.op = .call c) (hcal : c.callee = .builtin .append)
    (hargs : c.args.toList = [x, y]) (hty0 : (c.argTypes[0]?).bind P.underlying = some (.slice e)) (hsk : srcKind P c.argTypes = true) (hs : Tp.size P e = some s) (hb : Tp.bytes P e = some by_) (hz : Tp.zeros P e = some z) (hzl : z.length = s)
    (hq : aeff fns rec t h K (.append e s by_ z (cO P x) (cO P y))) : Did P w0 ρ X a w o K := by
  obtain ⟨zv, hz1, hz2, hz3⟩ := Tp.zeros_zero hz
  obtain ⟨i, hi1, hi2⟩ := Tp.bytes_info hb
  have hzs := cells_size (e := e) hz2 hzl
  have hty := appTy hty0 hsk
  have hx := H.ev ht x
  have hy := H.ev ht y
  have hrun : ∀ r w', (Builtin.append_ c.argTypes o.type #[a.eval x, a.eval y]).run P w = .ok r w' → (execOp a.eval o).run P w = .ok (.value r) w' := by
    intro r w' hr
    rw [execBuiltin ho hcal, arr_two hargs]
    simp only [builtin, List.map_toArray, List.map_cons, List.map_nil, Sem.run_bind, hr, Result.andThen_ok, Sem.run_pure]
  simp only [aeff] at hq
  split at hq
  · rename_i q len cap ex new hxe hnew
    rw [hxe] at hx hq
    split at hq
    · rename_i n hn
      have hn' : srcLen ((cO P y).ev t) = some n := hn
      obtain ⟨hlen, _⟩ := rSrc (P := P) H hy hnew hn'
      obtain ⟨vs, hv1, hv2, hv3⟩ := AppNew (P := P) H hy hnew hn'
      split at hq
      · rename_i hle
        split at hq
        · rename_i h2 hst
          cases q with
          | none =>
            obtain ⟨g1, g2, g3⟩ := vNilSl hx
            simp only [Option.some.injEq] at hst
            subst hst
            refine ⟨_, .slice none (len + n) 0, w, _, h, ρ, hrun _ _ (by rw [g3]; rw [show len = 0 from g1]; exact rAppIn (w' := w) hty hs hlen (hv3 w rfl) (by omega) rfl), .inl rfl, hq, Ren.le_refl _, H, ?_⟩
            simp only [VR]
            exact ⟨by omega, g2, by rw [show len + n = 0 by omega]⟩
          | some q =>
            obtain ⟨p, yy, c', g1, g2, g3, g4, g5⟩ := vSl hx
            have hcc : cap ≤ c' := by
              unfold exR at g5
              cases ex with
              | none => simp only at g5; omega
              | some es => simp only at g5; exact g5.1
            have hstore : ∃ w', (storeCells ((⟨p.1, yy, none⟩ : Addr).add (len * s)) vs).run P w = .ok () w' ∧ HR P w0 ρ X h2 w' := by
              rw [add_none]
              rcases g4 with g4 | g4
              · subst g4
                obtain ⟨w', k1, k2⟩ := H.stN (n := q.1) (o := q.2 + len * s) g1 hst hv1
                exact ⟨w', by rw [← Nat.add_assoc] at k1; exact k1, k2⟩
              · have hvn : vs = [] := List.eq_nil_of_length_eq_zero (by rw [hv2, show n = 0 by omega]; simp)
                have hnn : new = [] := List.eq_nil_of_length_eq_zero (by rw [hv1.length, hvn]; rfl)
                subst hvn hnn
                simp only [Heap.stN, Option.some.injEq] at hst
                subst hst
                exact ⟨w, by simp [storeCells], H⟩
            obtain ⟨w', k1, k2⟩ := hstore
            refine ⟨_, .slice (some ⟨p.1, yy, none⟩) (len + n) c', w', _, h2, ρ, hrun _ _ (by rw [g2]; exact rAppIn hty hs hlen (hv3 w rfl) (by omega) k1), .inl rfl, hq, Ren.le_refl _, k2, ?_⟩
            simp only [VR]
            exact ⟨p, yy, c', g1, rfl, hle, g4, g5⟩
        · exact hq.elim
      · rename_i hgt
        split at hq
        · rename_i hcond
          obtain ⟨c1, c2, c3, c4, c5⟩ := hcond
          subst hi2
          have fresh := H.fresh h.next (Nat.le_refl _)
          -- a new block
          have grow : ∀ (old : List AV) (os : List Value) (base : Option Addr) (c' : Nat), a.eval x = .slice base len c' → VRs ρ old os → os.length = len * s →
              (∀ w' : World, w'.heap = w.heap → (Builtin.firstCells s len (.slice base len c')).run P w' = .ok os.toArray w') → c' < len + n → ∀ h3 : Heap, HR P w0 ρ X h3 w → h3.next = h.next →
              K (.sl (some (h.next, 0)) (len + n) (len + n) (some s)) (h3.new (.cells e (old ++ new) false)) → Did P w0 ρ X a w o K := by
            intro old os base c' he hold hol hrd hlt h3 H3 hn3 hK
            obtain ⟨cp, k1, k2⟩ := rAppNew (P := P) (w := w) (c := c) (base := base) (cap' := c') (ty' := o.type) hty hs hi1 hz1 hlen hv3 hrd hlt c1 c2
            have hbr := AppBlk (P := P) (e := e) (n := h3.next) (s := s) (cp := cp) (need := len + n) (zc := zv.cells) hold hv1 (H3.fresh _ (Nat.le_refl _)).1 w.heap.size _ rfl
            have Hn := H3.new (w' := { w with heap := w.heap.push (.cells (os.toArray ++ vs.toArray ++ Builtin.zeroCells zv.cells (cp - (len + n))) e), drawn := w.drawn + 1 }) rfl rfl rfl rfl hbr
            refine ⟨_, _, _, _, _, _, hrun _ _ (by rw [he]; exact k2), .inl rfl, hK, Ren.le_put (H3.fresh _ (Nat.le_refl _)).1, Hn, ?_⟩
            simp only [VR]
            refine ⟨_, 0, cp, by rw [← hn3]; exact Ren.put_same _ _ _, rfl, Nat.le_refl _, .inl rfl, ?_⟩
            simp only [exR, Nat.zero_add]
            refine ⟨k1, ?_⟩
            rw [hol, hv2, hzs, ← Nat.add_mul, ← Nat.add_mul]
            exact Nat.mul_le_mul_right _ (by omega)
          split at hq
          · rename_i hex
            split at hq
            · rename_i old hold
              obtain ⟨os, k1, k2, k3⟩ := AppOld (P := P) (cap' := 0) H hx hold
              cases q with
              | none =>
                obtain ⟨g1, g2, g3⟩ := vNilSl hx
                subst g1
                refine grow old os none 0 g3 k1 k2 ?_ (by omega) h H rfl hq
                intro w' hw'; have := k3 w' hw'; rw [g3] at this; exact this
              | some q =>
                obtain ⟨p, yy, c', g1, g2, g3, g4, g5⟩ := vSl hx
                simp only [exR] at g5
                refine grow old os _ c' g2 k1 k2 ?_ (by omega) h H rfl hq
                intro w' hw'; have := k3 w' hw'; rw [g2] at this; exact this
            · exact hq.elim
          · rename_i es hex
            split at hq
            · rename_i q'
              split at hq
              · rename_i e' l old hg hold
                split at hq
                · rename_i hee
                  obtain ⟨rfl, he2⟩ := hee
                  have he3 := he2.symm
                  subst he3
                  obtain ⟨os, k1, k2, k3⟩ := AppOld (P := P) (cap' := 0) H hx hold
                  obtain ⟨p, yy, c', g1, g2, g3, g4, g5⟩ := vSl hx
                  simp only [exR] at g5
                  by_cases hfit : len + n ≤ c'
                  · -- there is room: the same block under a new name
                    have hyy : yy = p.2.1 + q'.2 := by
                      rcases g4 with g4 | g4
                      · exact g4
                      · omega
                    obtain ⟨p', cc, lo, hi, m1, m2, m3, m4, m5, m6, m7⟩ := H.cells hg
                    rw [g1] at m1; cases m1
                    have hfl := hv1.flat c5
                    have hroom : yy + len * s + 0 + vs.length ≤ cc.size := by
                      rw [hv2, m3]
                      have : (len + n) * s ≤ c' * s := Nat.mul_le_mul_right _ hfit
                      rw [Nat.add_mul] at this
                      omega
                    obtain ⟨w', j1, j2, j3, j4, j5⟩ := rStoreCells (P := P) (r := p.1) (x := yy + len * s) vs 0 cc w m2 m4 hroom hfl
                    have hnewlen := hv1.length
                    have holdlen := k1.length
                    have Hm := H.move (q := (p.1, yy, p.2.2)) (b' := .cells e' (old ++ new) false) hg rfl g1 rfl j2 j3 j4 j5 (by
                      refine ⟨_, lo, hi, rfl, by rw [wr_size]; exact m3, by rw [wr_size]; exact m4, by rw [wr_size]; simp only [List.length_append]; omega, ?_⟩
                      refine VRs.of_get ?_ ?_
                      · simp only [List.length_take, List.length_drop, Array.length_toList, wr_size, List.length_append]; omega
                      · intro j b hj
                        have hjl : j < (old ++ new).length := (List.getElem?_eq_some_iff.1 hj).1
                        rw [List.getElem?_take, if_pos hjl, List.getElem?_drop]
                        have e1 : (wr (yy + len * s) 0 cc vs).toList[yy + j]? = (wr (yy + len * s) 0 cc vs)[yy + j]? := by simp
                        rw [e1, wr_get hroom]
                        by_cases hjo : j < old.length
                        · rw [List.getElem?_append_left hjo] at hj
                          rw [if_neg (by omega)]
                          have hn0 : ¬ len * s = 0 := by omega
                          simp only [Heap.slCells, hn0, if_false] at hold
                          obtain ⟨p2, vs2, f1, f2, f3, f4⟩ := H.ldN (n := q'.1) (o := q'.2) hold
                          rw [g1] at f1; cases f1
                          obtain ⟨v2, f5, f6⟩ := f4.get j b hj
                          have f7 := f3 j v2 f5
                          rw [cell_at m2] at f7
                          exact ⟨v2, by rw [hyy]; exact f7, f6.mono (Ren.le_put fresh.1)⟩
                        · rw [List.getElem?_append_right (by omega)] at hj
                          rw [if_pos (by simp only [List.length_append] at hjl; omega)]
                          obtain ⟨v2, f5, f6⟩ := hv1.get _ b hj
                          exact ⟨v2, by rw [show yy + j - (yy + len * s + 0) = j - old.length by omega]; exact f5, f6.mono (Ren.le_put fresh.1)⟩)
                    refine ⟨_, .slice (some ⟨p.1, yy, none⟩) (len + n) c', w', _, _, _, hrun _ _ (by rw [g2]; exact rAppIn hty hs hlen (hv3 w rfl) hfit (by simp only [add_none]; exact j1)), .inl rfl, hq, Ren.le_put fresh.1, Hm, ?_⟩
                    simp only [VR]
                    exact ⟨_, yy, c', Ren.put_same _ _ _, rfl, Nat.le_refl _, .inl rfl, hfit, g5.2⟩
                  · refine grow old os _ c' g2 k1 k2 ?_ (by omega) (h.del q'.1) (H.del _) rfl hq
                    intro w' hw'; have := k3 w' hw'; rw [g2] at this; exact this
                · exact hq.elim
              · exact hq.elim
            · exact hq.elim
        · exact hq.elim
    · exact hq.elim
  · exact hq.elim

end
end Go.Am

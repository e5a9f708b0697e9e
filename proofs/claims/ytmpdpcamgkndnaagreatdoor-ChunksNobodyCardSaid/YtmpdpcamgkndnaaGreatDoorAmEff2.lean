/- The abstract machine against the model: append. Conditions: those that each lemma names. -/
import Derived.Test.YtmpdpcamgkndnaaGreatDoorAmEff1
set_option linter.constructorNameAsVariable false
set_option linter.unusedSimpArgs false
set_option linter.unusedVariables false
namespace Go.Am
open Go.RowKit (Below)

section
variable {P : Program} {w0 : World} {ρ : Ren} {X : Frm} {h h' : Heap} {w : World} {t : List AV} {a : Act} {o : Oper} {v : AV} {op : AOp}

/-- What is put behind. -/
theorem rSrc (H : HR P w0 ρ X h w) {size n : Nat} {y : AV} {u : Value} (hy : VR ρ y u) {l : List AV} (hl : h.slCells size y = some l) (hn : srcLen y = some n) :
    (Builtin.lenOf u).run P w = .ok n w ∧ ∃ vs : List Value, (Builtin.firstCells size n u).run P w = .ok vs.toArray w ∧ VRs ρ l vs ∧ vs.length = n * size := by
  rcases H.slCells hy hl with ⟨s, h1, h2, h3, hs⟩ | ⟨h1, h2, c, e, k, h3⟩ | ⟨q, m, c, e, ad, c', h1, h2, vs, h3, h4, h5⟩
  · subst h1 h2 h3
    subst hs
    simp only [srcLen, Option.some.injEq] at hn
    have hsz : s.size = n := by rw [← hn]; rfl
    refine ⟨by simp [Builtin.lenOf, hsz], s.data.toList.map fun b => Value.int .u8 b.toNat, ?_, ofBytes_rel _, by simp [← hn]⟩
    simp only [Builtin.firstCells, Sem.run_pure]
    congr 1
    apply Array.ext'
    simp [← hsz, ByteArray.data_extract]
  · subst h1 h2 h3
    simp only [srcLen, Option.some.injEq] at hn
    obtain ⟨hk, _, _⟩ := vNilSl hy
    subst hk hn
    exact ⟨by simp [Builtin.lenOf], [], by simp [Builtin.firstCells], by simp [VRs], by simp⟩
  · subst h1 h2
    simp only [srcLen, Option.some.injEq] at hn
    subst hn
    exact ⟨by simp [Builtin.lenOf], vs, by simp only [Builtin.firstCells]; exact h5 P, h4, h3⟩

theorem growBy_le (n : Nat) : ∀ (k c : Nat), c ≤ 2 * n + 192 → Builtin.growBy n k c ≤ 2 * n + 192
  | 0, c, h => h
  | k + 1, c, h => by
    unfold Builtin.growBy
    split
    · exact h
    · exact growBy_le n k _ (by omega)

theorem next_le {need cap : Nat} (h : cap < need) : Builtin.nextslicecap need cap ≤ 2 * need ∨ (256 ≤ cap ∧ Builtin.nextslicecap need cap ≤ 2 * need + 192) := by
  unfold Builtin.nextslicecap
  split
  · left; omega
  · split
    · left; omega
    · right; exact ⟨by omega, growBy_le _ _ _ (by omega)⟩

theorem next_bytes {need cap by_ : Nat} (h : cap < need) (hb : need * by_ ≤ 2 ^ 46) : ¬ Builtin.nextslicecap need cap * by_ > 2 ^ 48 := by
  rcases next_le h with h1 | ⟨h0, h1⟩
  · have := Nat.mul_le_mul_right by_ h1
    rw [Nat.mul_assoc] at this
    omega
  · have h2 := Nat.mul_le_mul_right by_ h1
    rw [Nat.add_mul, Nat.mul_assoc] at h2
    have h3 : 192 * by_ ≤ need * by_ := Nat.mul_le_mul_right by_ (by omega)
    omega

theorem rAsk {b : Nat} : (askRoom b).run P w = .ok () w := by
  unfold askRoom
  split
  · simp [mark, Sem.run]
  · simp

section
variable {c : Call} {e s by_ n len cap' : Nat} {z : List AV} {u : Value} {base : Option Addr} {vs : List Value} {ty' : TypeId}

/-- The types of append's arguments. -/
def AppTy (P : Program) (ts : Array TypeId) (e : TypeId) : Prop := ∃ ty ty1 d, ts[0]? = some ty ∧ P.underlying ty = some (.slice e) ∧ ts[1]? = some ty1 ∧ P.underlying ty1 = some d ∧ ((∃ x, d = .slice x) ∨ d = .string)

theorem appTy {ts : Array TypeId} (h0 : (ts[0]?).bind P.underlying = some (.slice e)) (h1 : srcKind P ts = true) : AppTy P ts e := by
  obtain ⟨ty, g1, g2⟩ := argTy h0
  unfold srcKind at h1
  cases ht : ts[1]? with
  | none => simp [ht] at h1
  | some ty1 =>
    simp only [ht, Option.bind_some] at h1
    split at h1
    · rename_i d hd; exact ⟨ty, ty1, _, g1, g2, ht, hd, .inl ⟨_, rfl⟩⟩
    · rename_i hd; exact ⟨ty, ty1, _, g1, g2, ht, hd, .inr rfl⟩
    · cases h1

theorem rAppIn {w' : World} (hty : AppTy P c.argTypes e) (hs : Tp.size P e = some s) (hlen : (Builtin.lenOf u).run P w = .ok n w) (hcells : (Builtin.firstCells s n u).run P w = .ok vs.toArray w) (hle : len + n ≤ cap')
    (hst : match base with
      | none => w' = w
      | some ad => (storeCells (ad.add (len * s)) vs).run P w = .ok () w') :
    (Builtin.append_ c.argTypes ty' #[.slice base len cap', u]).run P w = .ok (.slice base (len + n) cap') w' := by
  obtain ⟨ty, ty1, d, h1, h2, h3, h4, h5⟩ := hty
  have key : ∀ d, d = TypeDesc.string ∨ (∃ x, d = TypeDesc.slice x) → P.underlying ty1 = some d → (Builtin.append_ c.argTypes ty' #[.slice base len cap', u]).run P w = .ok (.slice base (len + n) cap') w' := by
    intro d hd hu
    cases base with
    | none =>
      simp only at hst
      subst hst
      rcases hd with rfl | ⟨x, rfl⟩ <;>
        simp only [Builtin.append_, h1, h3, List.getElem?_toArray, List.getElem?_cons_zero, List.getElem?_cons_succ, Sem.run_bind, rUnderlying h2, Result.andThen_ok, rSize hs, rUnderlying hu, Sem.run_pure, Bool.false_eq_true, if_false, hlen, hle, if_true, hcells, Bool.not_false, Sem.run_ite]
    | some ad =>
      simp only at hst
      rcases hd with rfl | ⟨x, rfl⟩ <;>
        simp only [Builtin.append_, h1, h3, List.getElem?_toArray, List.getElem?_cons_zero, List.getElem?_cons_succ, Sem.run_bind, rUnderlying h2, Result.andThen_ok, rSize hs, rUnderlying hu, Sem.run_pure, Bool.false_eq_true, if_false, hlen, hle, if_true, hcells, Bool.not_false, Sem.run_ite, hst]
  rcases h5 with h5 | h5
  · exact key d (.inr h5) h4
  · exact key d (.inl h5) h4

theorem rAppNew {i : TypeInfo} {zv : Value} {os : List Value} (hty : AppTy P c.argTypes e) (hs : Tp.size P e = some s) (hi : P.info? e = some i) (hz : Tp.zero P e = some zv) (hlen : (Builtin.lenOf u).run P w = .ok n w)
    (hcells : ∀ w' : World, w'.heap = w.heap → (Builtin.firstCells s n u).run P w' = .ok vs.toArray w') (hold : ∀ w' : World, w'.heap = w.heap → (Builtin.firstCells s len (.slice base len cap')).run P w' = .ok os.toArray w')
    (hgt : cap' < len + n) (hb : (len + n) * i.bytes ≤ 2 ^ 46) (hb0 : 0 < i.bytes) :
    ∃ cp, len + n ≤ cp ∧ (Builtin.append_ c.argTypes ty' #[.slice base len cap', u]).run P w =
      .ok (.slice (some ⟨w.heap.size, 0, none⟩) (len + n) cp) { w with heap := w.heap.push (.cells (os.toArray ++ vs.toArray ++ Builtin.zeroCells zv.cells (cp - (len + n))) e), drawn := w.drawn + 1 } := by
  obtain ⟨ty, ty1, d, h1, h2, h3, h4, h5⟩ := hty
  obtain ⟨cp, k1, k2⟩ := rChooseCap (P := P) (w := w) (need := len + n) (old := cap') (el := e)
  refine ⟨cp, k1, ?_⟩
  have hnb := next_bytes hgt hb
  have hnle : ¬ len + n ≤ cap' := by omega
  have hb1 : ¬ i.bytes = 0 := by omega
  have hc' := hcells { w with drawn := w.drawn + 1 } rfl
  have ho' := hold { w with drawn := w.drawn + 1 } rfl
  have hnb' : ¬ 2 ^ 48 < Builtin.nextslicecap (len + n) cap' * i.bytes := hnb
  rcases h5 with ⟨x, rfl⟩ | rfl <;>
  simp only [Builtin.append_, h1, h3, List.getElem?_toArray, List.getElem?_cons_zero, List.getElem?_cons_succ, Sem.run_bind, rUnderlying h2, Result.andThen_ok, rSize hs, rUnderlying h4, Sem.run_pure, Bool.false_eq_true, if_false, hlen, hnle, rInfo hi, hb1, or_self, and_false, hnb, k2, rAsk, ho', hc', rZero hz, rNewRow, Bool.not_false, if_true, Sem.run_ite]

end
end
end Go.Am

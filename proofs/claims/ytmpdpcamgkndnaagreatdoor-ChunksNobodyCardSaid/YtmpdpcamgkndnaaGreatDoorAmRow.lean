/- The abstract machine at a row: a law that returns true and turns no block meets the row's post; the world in which the call begins stands for a heap in which the listed tables are known. Conditions: those that each lemma names. -/
import Derived.Test.YtmpdpcamgkndnaaGreatDoorAmKrun
import Derived.Carry
import Derived.ProofKit
import Derived.OpenShut
import Derived.Lib.LaidTab
set_option linter.constructorNameAsVariable false
set_option linter.unusedSimpArgs false
set_option linter.unusedVariables false
namespace Go.Am
open Go.ChangeShapes Go.WideShapes Go.ChangeAt Go.RowKit

section
variable {H : Type} {enc : TypeId × Value → H} {P : Program}

theorem trodAll_stays (hl : laidOutB P = true) {W W' : World} (hb : Below W.heap.size W W') : ∀ (ts : List TypeId) (vs : List Value) (ds : List (DataW H)) (ps : List MemPlace),
    (∀ t ∈ ts, P.readableRec t = true ∧ t < P.types.size) → DataW.TrodAll enc P W 0 (fun _ => true) true ts vs ds ps → (∀ p ∈ ps, p.block < W.heap.size) →
    ∀ sp : Nat → Bool, (∀ p ∈ ps, sp p.block = true) → DataW.TrodAll enc P W' 0 sp true ts vs ds ps
  | [], vs, ds, ps, _, h, _, sp, _ => by
    obtain ⟨rfl, rfl, rfl⟩ := trodAll_nil h
    exact rfl
  | t :: ts, vs, ds, ps, hr, h, hlt, sp, hsp => by
    obtain ⟨v, vs', d, ds', p, q, rfl, rfl, rfl, h1, h2⟩ := trodAll_cons h
    refine ⟨p, q, ?_, trodAll_stays hl hb ts vs' ds' q (fun t ht => hr t (by simp [ht])) h2 (fun x hx => hlt x (by simp [hx])) sp (fun x hx => hsp x (by simp [hx])), rfl⟩
    exact WideElems.Trod_stays hl (hr t (by simp)).1 (hr t (by simp)).2 h1 (fun x hx => hb.same (hlt x (by simp [hx]))) (fun x hx => hsp x (by simp [hx]))

/-- A law's call that returns true and turns no block of the world in which it began. -/
theorem law_post {f : Func} {s : ChangeSpec} {apart fresh handsOn : Bool} {W W' : World} {args : Array Value} {ds gs : List (DataW H)} {before : List MemPlace} {tb : TypeId}
    (hl : laidOutB P = true) (hv : s.vars = []) (hr : f.resultTypes = #[tb]) (ht : P.underlying tb = some .bool) (hp : ∀ t ∈ f.params.toList, P.readableRec t = true ∧ t < P.types.size)
    (hW : DataW.Whole enc P f.params.toList s.vars apart W args.toList ds gs before) (hfn : (s.fn H (ds ++ gs)).results = [.lit (.bool true)] ∧ (s.fn H (ds ++ gs)).args = ds ∧ (s.fn H (ds ++ gs)).vars = [])
    (hb : Below W.heap.size W W') : s.post enc P f apart fresh handsOn false W args (.bool true) W' := by
  have hlt : ∀ p ∈ before, p.block < W.heap.size := fun p hp => hW.lt p hp
  have hW' := hW
  obtain ⟨p, q, hA, hV, he, hz, hn⟩ := hW
  rw [hv] at hV
  obtain ⟨rfl, rfl⟩ := trodVars_none hV
  simp only [List.append_nil] at he
  subst he
  refine ⟨ds, [], before, [], before, [], hW', ?_, ?_, ?_, ?_, fun h => by cases h⟩
  · rw [hfn.1, hr]
    exact trodAll_mk1 (shut_bool ht true)
  · rw [hfn.2.1]
    exact trodAll_stays hl hb _ _ _ _ hp hA hlt _ (fun x hx => by simpa using hlt x hx)
  · rw [hfn.2.2, hv]
    exact rfl
  · exact World.keptBut_mono (fun x hx => ⟨hx, .inr (.inl hx)⟩) (hb.frame (· ∈ before))

/-! ### What the row lists -/
theorem laidVars_mem {W : World} : ∀ (laid : List (String × DataW Unit)) (ps : List MemPlace), DataW.LaidVars P W laid ps → ∀ x ∈ laid,
    ∃ g t cs fuel p, P.globalNamed x.1 = some g ∧ (P.globals[g]?).map (·.type) = some t ∧ W.var? P x.1 = some cs ∧ DataW.trod (fun _ => ()) P W 0 (fun _ => true) false fuel t cs.toList = some (x.2, p) ∧
      ∀ y ∈ MemPlace.row ⟨g, 0, none⟩ cs.size, y ∈ ps
  | [], ps, _, x, hx => by cases hx
  | (n, d) :: r, ps, h, x, hx => by
    obtain ⟨g, t, cs, fuel, p, q, h1, h2, h3, h4, h5, h6⟩ := h
    rcases List.mem_cons.1 hx with rfl | hx
    · exact ⟨g, t, cs, fuel, p, h1, h2, h3, h4, fun y hy => by rw [h6]; simp [hy]⟩
    · obtain ⟨g', t', cs', fuel', p', k1, k2, k3, k4, k5⟩ := laidVars_mem r q h5 x hx
      exact ⟨g', t', cs', fuel', p', k1, k2, k3, k4, fun y hy => by rw [h6]; simp [k5 y hy]⟩

/-- A listed table of whole numbers lies in its block. -/
theorem laid_tab {W : World} {laid : List (String × DataW Unit)} {name : String} {k : IntKind} {zs : List Int} {g : Nat} {t e : TypeId} {n : Nat} (h : laidMet P laid W) (hm : (name, Lib.tabData k zs) ∈ laid)
    (hg : P.globalNamed name = some g) (hty : (P.globals[g]?).map (·.type) = some t) (ht : P.underlying t = some (.array n e)) (he : P.underlying e = some (.int k)) (hce : P.cellsOf e = 1) (hct : P.cellsOf t = n) (hz : zs ≠ []) :
    ∃ u, W.heap[g]? = some (.cells (zs.map fun z => Value.int k z).toArray u (0, 0)) := by
  obtain ⟨ps, hL, _, hc⟩ := h
  obtain ⟨g', t', cs, fuel, p, h1, h2, h3, h4, h5⟩ := laidVars_mem _ _ hL _ hm
  obtain rfl := Option.some.inj (hg.symm.trans h1)
  obtain rfl := Option.some.inj (hty.symm.trans h2)
  have hcs := Lib.cells_of_tab ht he hce hct h4
  have hca : cs = (zs.map fun z => Value.int k z).toArray := by apply Array.ext'; simpa using hcs
  have hpos : 0 < cs.size := by
    rw [hca]
    cases zs with
    | nil => exact absurd rfl hz
    | cons z zs => simp
  have hin : MemPlace.cell g 0 ∈ ps := h5 _ (by
    unfold MemPlace.row
    simp only [List.mem_map, List.mem_range]
    exact ⟨0, hpos, by simp⟩)
  obtain ⟨⟨c, u, hb⟩, _⟩ := hc g 0 hin
  have hvv : W.var? P name = some c := by
    unfold World.var?
    rw [hg]
    simp [hb]
  rw [hvv] at h3
  cases h3
  exact ⟨u, by rw [hb, hca]⟩

theorem VRs_ints (ρ : Ren) (k : IntKind) : ∀ zs : List Int, VRs ρ (zs.map fun z => AV.int k z) (zs.map fun z => Value.int k z)
  | [] => by simp [VRs]
  | z :: zs => by
    simp only [List.map_cons, VRs, VR]
    exact ⟨trivial, VRs_ints ρ k zs⟩
end

def szOf (W : World) (k : Nat) : Nat :=
  match W.heap[k]? with
  | some (.cells c _ _) => c.size
  | _ => 0
def eOf (W : World) (k : Nat) : Nat :=
  match W.heap[k]? with
  | some (.cells _ e _) => e
  | _ => 0

/-- The heap in which a law's call begins: the listed tables, and names for the arguments' blocks (nothing is known of these). -/
def begun (G m : Nat) (es : Nat → Nat) (gl : List (Nat × List AV)) : Heap := (Heap.empty.resv (G + m)).putL (gl.map fun g => (g.1, Blk.cells (es g.1) g.2 true))

theorem HR.begun {P : Program} {W : World} {gl : List (Nat × List AV)} {m : Nat} {ex : Nat → Option (Nat × Nat × Nat)} (hex : ∀ k, P.globals.size + m ≤ k → ex k = none)
    (hgl : ∀ g ∈ gl, g.1 < P.globals.size ∧ ∃ c u, W.heap[g.1]? = some (.cells c u (0, 0)) ∧ ∀ ρ, VRs ρ g.2 c.toList) :
    HR P W (fun k => if k < P.globals.size then some (k, 0, szOf W k) else ex k) ⟨fun _ => none, fun _ => false⟩ (Am.begun P.globals.size m (eOf W) gl) W := by
  have hnx : (Am.begun P.globals.size m (eOf W) gl).next = P.globals.size + m := by
    unfold Am.begun
    rw [Heap.putL_next, Heap.resv_next]
    simp [Heap.empty]
  have hget : ∀ k b, (Am.begun P.globals.size m (eOf W) gl).get k = some b → ∃ g ∈ gl, k = g.1 ∧ b = .cells (eOf W g.1) g.2 true := by
    intro k b hk
    unfold Am.begun at hk
    rcases putL_some _ _ _ _ (fun p hp => by
      obtain ⟨g, hg, rfl⟩ := List.mem_map.1 hp
      rw [Heap.resv_next]
      have := (hgl g hg).1
      simp only [Heap.empty]; omega) hk with h1 | h1
    · obtain ⟨g, hg, he⟩ := List.mem_map.1 h1
      cases he
      exact ⟨g, hg, rfl, rfl⟩
    · rw [Heap.get_resv, empty_get] at h1; cases h1
  refine ⟨⟨rfl, rfl, rfl, Nat.le_refl _, fun _ _ => rfl⟩, ?_, ?_, ?_, fun _ _ _ => rfl, ?_, fun _ hz => by cases hz⟩
  · intro k hk
    exact ⟨szOf W k, by simp [hk]⟩
  · intro k b hl
    rcases hl with hl | hl
    · obtain ⟨g, hg, rfl, rfl⟩ := hget k b hl
      obtain ⟨hlt, c, u, hc, hv⟩ := hgl g hg
      have he : eOf W g.1 = u := by unfold eOf; rw [hc]
      have hs : szOf W g.1 = c.size := by unfold szOf; rw [hc]
      have hlen := (hv (fun _ => none)).length
      simp only [Array.length_toList] at hlen
      refine ⟨(g.1, 0, szOf W g.1), by simp [hlt], ⟨c, 0, 0, by rw [he]; exact hc, hs.symm, .inl rfl, by simp only; omega, ?_⟩, fun hw => by cases hw⟩
      simp only [List.drop_zero]
      rw [List.take_of_length_le (by simp; omega)]
      exact hv _
    · cases hl
  · intro k k' b1 b2 pp qq hl hw
    rcases hl with hl | hl
    · obtain ⟨g, hg, rfl, rfl⟩ := hget k b1 hl
      cases hw
    · cases hl
  · intro k hk
    rw [hnx] at hk
    exact ⟨by rw [if_neg (by omega)]; exact hex k hk, rfl⟩

/-- A slice that comes in. -/
theorem sl_of_ok {P : Program} {w : World} {r : Reach} {base : Nat} {t e : TypeId} {v : Value} (ht : P.underlying t = some (.slice e)) (h : Value.okWide P w r base t v) :
    v = .slice none 0 0 ∨ ∃ b o len cap, v = .slice (some ⟨b, o, none⟩) len cap ∧ len ≤ cap := by
  obtain ⟨a, len, cap, rfl⟩ := okWide_slice ht h
  simp only [Value.okWide, ht, Cell.okWide, Cell.ok] at h
  cases a with
  | none =>
    left
    cases len <;> cases cap <;> simp_all
  | some a =>
    right
    obtain ⟨h1, _, _, h3, _⟩ := h
    obtain ⟨b, o, sp⟩ := a
    simp only at h3
    subst h3
    exact ⟨b, o, len, cap, rfl, h1⟩
/-- An array or a struct that comes in. -/
theorem agg_of_ok {P : Program} {w : World} {r : Reach} {base : Nat} {t : TypeId} {v : Value} {d : TypeDesc} (ht : P.underlying t = some d) (hd : (∃ fs, d = .struct fs) ∨ ∃ n e, d = .array n e) (h : Value.okWide P w r base t v) :
    ∃ cs : Array Value, v = .agg cs ∧ cs.size = P.cellsOf t := by
  rcases hd with ⟨fs, rfl⟩ | ⟨n, e, rfl⟩ <;> simp only [Value.okWide, ht] at h <;> obtain ⟨cs, h1, h2, _⟩ := h <;> exact ⟨cs, h1, h2⟩

/-- A call that gives true, in the world that the heap stands for: it returns true and no block is turned. -/
theorem Rets.calls_true {P : Program} {fns : Nat → Option AFn} (hm : P.follows .mixedOrders = true) (hfns : Fns P fns) {ρ : Ren} {X : Frm} {h : Heap} {W : World} (H : HR P W ρ X h W) {f : Nat} {args : List AV} {args' : Array Value} (hargs : VRs ρ args args'.toList)
    (hr : Rets fns f args h (.bool true)) : Calls P f args' W fun e W' => e = .returned (.bool true) ∧ Below W.heap.size W W' := by
  refine Calls.mono (ACall.sound hm hfns H hargs hr.go) ?_
  intro e W' hR
  cases e with
  | returned v' =>
    obtain ⟨v, h', ρ', rfl, _, H', hv⟩ := hR
    exact ⟨by rw [vBool hv], H'.below⟩
  | panicked ch => exact hR.elim
  | outgrown => exact hR.elim

end Go.Am

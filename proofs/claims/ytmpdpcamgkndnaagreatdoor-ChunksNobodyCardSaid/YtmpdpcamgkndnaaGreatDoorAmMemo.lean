/- The abstract machine: what a call of a pure function of bytes comes to, known ahead. Conditions: those that each lemma names. -/
import Derived.Test.YtmpdpcamgkndnaaGreatDoorAmWp
set_option linter.constructorNameAsVariable false
set_option linter.unusedSimpArgs false
set_option linter.unusedVariables false
namespace Go.Am
open Go.RowKit (Below)

mutual
/-- No names of blocks in it, nothing unknown. -/
def AV.plain : AV → Bool
  | .bool _ | .int _ _ | .str _ | .ptr none | .sl none _ _ _ | .map none | .nilf => true
  | .agg l | .tup l => AV.plainL l
  | _ => false
def AV.plainL : List AV → Bool
  | [] => true
  | a :: l => AV.plain a && AV.plainL l
end

mutual
theorem VR.plain {ρ ρ' : Ren} : ∀ (a : AV) (v : Value), a.plain = true → VR ρ a v → VR ρ' a v
  | .bool b, v, _, h => by simpa only [VR] using h
  | .int k n, v, _, h => by simpa only [VR] using h
  | .str l, v, _, h => by simpa only [VR] using h
  | .ptr none, v, _, h => by simpa only [VR] using h
  | .sl none l c e, v, _, h => by simpa only [VR] using h
  | .map none, v, _, h => by simpa only [VR] using h
  | .nilf, v, _, h => by simpa only [VR] using h
  | .agg l, v, hp, h => by
    simp only [AV.plain] at hp
    simp only [VR] at h ⊢
    obtain ⟨c, e, hc⟩ := h
    exact ⟨c, e, VRs.plain l _ hp hc⟩
  | .tup l, v, hp, h => by
    simp only [AV.plain] at hp
    simp only [VR] at h ⊢
    obtain ⟨c, e, hc⟩ := h
    exact ⟨c, e, VRs.plain l _ hp hc⟩
  | .top, _, hp, _ => by simp [AV.plain] at hp
  | .ptr (some _), _, hp, _ => by simp [AV.plain] at hp
  | .sl (some _) _ _ _, _, hp, _ => by simp [AV.plain] at hp
  | .map (some _), _, hp, _ => by simp [AV.plain] at hp
  | .fn _ _, _, hp, _ => by simp [AV.plain] at hp
  | .yield _, _, hp, _ => by simp [AV.plain] at hp
theorem VRs.plain {ρ ρ' : Ren} : ∀ (l : List AV) (vs : List Value), AV.plainL l = true → VRs ρ l vs → VRs ρ' l vs
  | [], [], _, h => by simp only [VRs]
  | a :: l, v :: vs, hp, h => by
    simp only [AV.plainL, Bool.and_eq_true] at hp
    simp only [VRs] at h ⊢
    exact ⟨VR.plain a v hp.1 h.1, VRs.plain l vs hp.2 h.2⟩
  | [], _ :: _, _, h => by simp only [VRs] at h
  | _ :: _, [], _, h => by simp only [VRs] at h
end

theorem ofBytes_plain : ∀ l : List UInt8, AV.plainL (ofBytes l) = true
  | [] => rfl
  | b :: l => by
    have := ofBytes_plain l
    simp only [ofBytes] at this
    simp [ofBytes, AV.plainL, AV.plain, this]


/-- The small heap: globals that are read, and the argument's bytes. -/
def small (G : Nat) (gl : List (Nat × List AV)) (es : Nat → Nat) (e : Nat) (b : List UInt8) : Heap :=
  ((Heap.empty.resv (G + 1)).putL (gl.map fun g => (g.1, Blk.cells (es g.1) g.2 true))).put G (.cells e (ofBytes b) true)

def isG (h : Heap) (g : Nat × List AV) : Bool :=
  match h.get g.1 with
  | some (.cells _ l true) => AV.beqL l g.2
  | _ => false
/-- The kind of a block's cells. -/
def esOf (h : Heap) (n : Nat) : Nat :=
  match h.get n with
  | some (.cells e _ _) => e
  | _ => 0

def findB : List (List UInt8 × AV) → List AV → Option AV
  | [], _ => none
  | x :: xs, l => if AV.beqL l (ofBytes x.1) then some x.2 else findB xs l

/-- A table: bytes and what the call gives. -/
def memoB (gl : List (Nat × List AV)) (tb : List (List UInt8 × AV)) : List AV → Heap → Option AV := fun args h =>
  match args with
  | [.sl (some q) n c ex] => if 0 < n ∧ gl.all (isG h) = true ∧ (ex = some 1 ∨ (ex = none ∧ c = n)) then (h.ldN q n).bind (findB tb) else none
  | _ => none

theorem findB_mem : ∀ (tb : List (List UInt8 × AV)) (l : List AV) (v : AV), findB tb l = some v → ∃ b, (b, v) ∈ tb ∧ l = ofBytes b
  | [], l, v, h => by cases h
  | x :: xs, l, v, h => by
    simp only [findB] at h
    split at h
    · rename_i hb
      cases h
      exact ⟨x.1, by simp, AV.beqL_eq _ _ hb⟩
    · obtain ⟨b, h1, h2⟩ := findB_mem xs l v h
      exact ⟨b, by simp [h1], h2⟩

theorem putL_some : ∀ (l : List (Nat × Blk)) (h : Heap) (n : Nat) (b : Blk), (∀ p ∈ l, p.1 < h.next) → (h.putL l).get n = some b → (n, b) ∈ l ∨ h.get n = some b
  | [], h, n, b, _, hg => .inr hg
  | p :: ps, h, n, b, hl, hg => by
    simp only [Heap.putL] at hg
    rcases putL_some ps _ n b (fun q hq => by simpa using hl q (by simp [hq])) hg with h1 | h1
    · exact .inl (by simp [h1])
    · rw [Heap.get_put _ _ _ _ (hl p (by simp))] at h1
      split at h1
      · rename_i hn
        cases h1
        exact .inl (by rw [hn]; simp)
      · exact .inr h1

theorem empty_get (n : Nat) : Heap.empty.get n = none := by
  unfold Heap.get Heap.empty
  simp

theorem small_get {G : Nat} {gl : List (Nat × List AV)} {es : Nat → Nat} {e : Nat} {b : List UInt8} (hgl : ∀ g ∈ gl, g.1 < G) {n : Nat} {bk : Blk} (h : (small G gl es e b).get n = some bk) :
    (n = G ∧ bk = .cells e (ofBytes b) true) ∨ (∃ g ∈ gl, n = g.1 ∧ bk = .cells (es g.1) g.2 true) := by
  unfold small at h
  have hnx : (Heap.empty.resv (G + 1)).next = G + 1 := by rw [Heap.resv_next]; simp [Heap.empty]
  rw [Heap.get_put _ _ _ _ (by rw [Heap.putL_next, hnx]; omega)] at h
  split at h
  · rename_i hn; cases h; exact .inl ⟨hn, rfl⟩
  · right
    rcases putL_some _ _ _ _ (fun p hp => by
      obtain ⟨g, hg, rfl⟩ := List.mem_map.1 hp
      rw [hnx]; have := hgl g hg; simp; omega) h with h1 | h1
    · obtain ⟨g, hg, he⟩ := List.mem_map.1 h1
      cases he
      exact ⟨g, hg, rfl, rfl⟩
    · rw [Heap.get_resv, empty_get] at h1; cases h1

/-- A call of a function of the table gives this value. -/
structure Rets (fns : Nat → Option AFn) (f : Nat) (args : List AV) (h : Heap) (w : AV) : Prop where
  go : ACall fns f args h fun v _ => v = w

theorem memo_ok {P : Program} {fns : Nat → Option AFn} (hm : P.follows .mixedOrders = true) (hfns : Fns P fns) {f : Nat} {gl : List (Nat × List AV)} {tb : List (List UInt8 × AV)}
    (hgl : ∀ g ∈ gl, g.1 < P.globals.size) (hpl : ∀ g ∈ gl, AV.plainL g.2 = true)
    (hrun : ∀ x ∈ tb, x.2.plain = true ∧ ∀ es e, Rets fns f [.sl (some (P.globals.size, 0)) x.1.length x.1.length (some 1)] (small P.globals.size gl es e x.1) x.2) :
    MemoOk P f (memoB gl tb) := by
  intro args h v hmv w0 ρ X w args' H hargs F m hF
  unfold memoB at hmv
  split at hmv
  · rename_i q len c ex
    split at hmv
    · rename_i hc
      obtain ⟨hn, hg, hex⟩ := hc
      simp only [Option.bind_eq_some_iff] at hmv
      obtain ⟨cells, hld, hfd⟩ := hmv
      obtain ⟨b, hb1, hb2⟩ := findB_mem _ _ _ hfd
      subst hb2
      obtain ⟨hpv, hr⟩ := hrun _ hb1
      simp only at hpv hr
      -- the argument
      have hl' := hargs.length
      simp only [List.length_singleton, Array.length_toList] at hl'
      obtain ⟨u, hu⟩ : ∃ u, args' = #[u] := Array.size_eq_one_iff.1 hl'.symm
      subst hu
      simp only [VRs, and_true] at hargs
      obtain ⟨p, yy, c', g1, g2, g3, g4, g5⟩ := vSl hargs
      have hcc : c ≤ c' := by
        unfold exR at g5
        cases ex with
        | none => simp only at g5; omega
        | some es => simp only at g5; exact g5.1
      have hyy : yy = p.2.1 + q.2 := by
        rcases g4 with g4 | g4
        · exact g4
        · omega
      -- its block
      unfold Heap.ldN at hld
      split at hld
      · rename_i l hcs
        split at hld
        · rename_i hlen
          simp only [Option.some.injEq] at hld
          unfold Heap.cs at hcs
          split at hcs
          · rename_i e l' ro hget
            cases hcs
            obtain ⟨p', cc, lo, hi, m1, m2, m3, m4, m5, m6, m7⟩ := H.cells hget
            rw [g1] at m1; cases m1
            have hbl : b.length = len := by
              have := congrArg List.length hld
              simp only [List.length_take, List.length_drop, ofBytes, List.length_map] at this
              omega
            let ρs : Ren := fun k => if k < P.globals.size then ρ k else if k = P.globals.size then some (p.1, yy, p.2.2) else none
            have hsG : ρs P.globals.size = some (p.1, yy, p.2.2) := by simp [ρs]
            have hslt : ∀ k, k < P.globals.size → ρs k = ρ k := fun k hk => by simp [ρs, hk]
            have hsr : ∀ k b', (small P.globals.size gl (esOf h) e b).get k = some b' → ∃ pp, ρs k = some pp ∧ BR P ρs pp b' (w.heap[pp.1]?) ∧ b'.wr = false := by
              intro k b' hk
              rcases small_get hgl hk with ⟨rfl, rfl⟩ | ⟨g, hgm, rfl, rfl⟩
              · refine ⟨_, hsG, ⟨cc, lo, hi, m2, m3, m4, ?_, ?_⟩, rfl⟩
                · simp only [ofBytes, List.length_map]; omega
                · have hv : VRs ρ (ofBytes b) (((cc.toList.drop p.2.1).take l.length).drop q.2 |>.take len) := by
                    rw [← hld]; exact (m6.drop q.2).take len
                  have he : (((cc.toList.drop p.2.1).take l.length).drop q.2).take len = (cc.toList.drop yy).take (ofBytes b).length := by
                    have hbl' : (ofBytes b).length = len := by simp [ofBytes, hbl]
                    rw [hbl', List.drop_take, List.drop_drop, List.take_take, hyy]
                    congr 1
                    omega
                  rw [he] at hv
                  exact VRs.plain _ _ (ofBytes_plain b) hv
              · have hgg := List.all_eq_true.1 hg g hgm
                unfold isG at hgg
                split at hgg
                · rename_i e2 l2 hget2
                  have h3 := AV.beqL_eq _ _ hgg
                  subst h3
                  have he2 : esOf h g.1 = e2 := by unfold esOf; rw [hget2]
                  rw [he2]
                  obtain ⟨pp, hp1, hp2, _⟩ := H.get hget2
                  refine ⟨pp, by rw [hslt _ (hgl g hgm)]; exact hp1, ?_, rfl⟩
                  obtain ⟨c2, lo2, hi2, r1, r2, r3, r4, r5⟩ := hp2
                  exact ⟨c2, lo2, hi2, r1, r2, r3, r4, VRs.plain _ _ (hpl g hgm) r5⟩
                · cases hgg
            have hnx : (small P.globals.size gl (esOf h) e b).next = P.globals.size + 1 := by
              unfold small
              rw [Heap.put_next, Heap.putL_next, Heap.resv_next]
              simp [Heap.empty]
            have Hs : HR P w ρs ⟨fun _ => none, fun _ => false⟩ (small P.globals.size gl (esOf h) e b) w := by
              refine ⟨⟨rfl, rfl, rfl, Nat.le_refl _, fun _ _ => rfl⟩, ?_, ?_, ?_, fun _ _ _ => rfl, ?_, fun _ hz => by cases hz⟩
              · intro k hk
                obtain ⟨sz, hs⟩ := H.glob k hk
                exact ⟨sz, by rw [hslt k hk]; exact hs⟩
              · intro k b' hl
                rcases hl with hl | hl
                · obtain ⟨pp, h1, h2, h3⟩ := hsr k b' hl
                  exact ⟨pp, h1, h2, fun hw => by rw [h3] at hw; cases hw⟩
                · cases hl
              · intro k k' b1 b2 pp qq hl hw
                rcases hl with hl | hl
                · obtain ⟨_, _, _, h3⟩ := hsr k b1 hl
                  rw [h3] at hw; cases hw
                · cases hl
              · intro k hk
                rw [hnx] at hk
                exact ⟨by simp only [ρs]; rw [if_neg (by omega), if_neg (by omega)], rfl⟩
            have hargs' : VRs ρs [.sl (some (P.globals.size, 0)) b.length b.length (some 1)] (#[u] : Array Value).toList := by
              simp only [VRs, and_true, VR]
              refine ⟨_, yy, c', hsG, by rw [g2, hbl], Nat.le_refl _, .inl (by simp), ?_⟩
              simp only [exR]
              refine ⟨by omega, ?_⟩
              rcases hex with rfl | ⟨rfl, rfl⟩
              · unfold exR at g5
                simp only at g5
                exact g5.2
              · unfold exR at g5
                simp only at g5
                omega
            refine CallsIn.mono (ACall.soundIn hm hfns Hs hargs' (hr (esOf h) e).go hF m) ?_
            intro e' w' hR
            cases e' with
            | returned v' =>
              obtain ⟨v2, h2, ρ2, rfl, _, H2, hv2⟩ := hR
              exact ⟨v', rfl, VR.plain _ _ hpv hv2, H2.below⟩
            | panicked ch => exact hR.elim
            | outgrown => exact hR.elim
          · cases hcs
        · cases hld
      · cases hld
    · cases hmv
  · cases hmv

/-- The heap in which nothing is known but the globals' names, and one name more. -/
theorem HR.bare {P : Program} {w0 w : World} {ρ : Ren} {X : Frm} {h : Heap} (H : HR P w0 ρ X h w) (p : Option (Nat × Nat × Nat)) :
    HR P w (fun k => if k < P.globals.size then ρ k else if k = P.globals.size then p else none) ⟨fun _ => none, fun _ => false⟩ (Heap.empty.resv (P.globals.size + 1)) w := by
  have hnx : (Heap.empty.resv (P.globals.size + 1)).next = P.globals.size + 1 := by rw [Heap.resv_next]; simp [Heap.empty]
  have hno : ∀ k b, ¬ Lv (Heap.empty.resv (P.globals.size + 1)) ⟨fun _ => none, fun _ => false⟩ k b := by
    intro k b hl
    rcases hl with hl | hl
    · rw [Heap.get_resv, empty_get] at hl; cases hl
    · cases hl
  refine ⟨⟨rfl, rfl, rfl, Nat.le_refl _, fun _ _ => rfl⟩, ?_, fun k b hl => (hno k b hl).elim, fun k k' b1 b2 pp qq hl => (hno _ _ hl).elim, fun _ _ _ => rfl, ?_, fun _ hz => by cases hz⟩
  · intro k hk
    obtain ⟨sz, hs⟩ := H.glob k hk
    exact ⟨sz, by simp only [hk, if_true]; exact hs⟩
  · intro k hk
    rw [hnx] at hk
    exact ⟨by rw [if_neg (by omega), if_neg (by omega)], rfl⟩

/-- A call that looks at the length of a slice and at a number: it comes back, and what it gives is not looked at. -/
theorem memo_cut {P : Program} {fns : Nat → Option AFn} (hm : P.follows .mixedOrders = true) (hfns : Fns P fns) {f : Nat} {m : Int}
    (hrun : ∀ q n c, n ≤ c → ACall fns f [.sl (some q) n c none, .int .i64 m] (Heap.empty.resv (P.globals.size + 1)) fun _ _ => True)
    (hnil : ACall fns f [.sl none 0 0 none, .int .i64 m] (Heap.empty.resv (P.globals.size + 1)) fun _ _ => True) :
    MemoOk P f fun args _ =>
      match args with
      | [.sl _ _ _ none, .int .i64 k] => if k = m then some .top else none
      | _ => none := by
  intro args h v hmv w0 ρ X w args' H hargs F mm hF
  simp only at hmv
  split at hmv
  · rename_i q n c k
    split at hmv
    · rename_i hk
      subst hk
      cases hmv
      have fin : ∀ e w', RetPost P w (fun k => if k < P.globals.size then ρ k else none) ⟨fun _ => none, fun _ => false⟩ (fun _ _ => True) e w' → True := fun _ _ _ => trivial
      cases args' with
      | mk l =>
        match l, hargs with
        | [u, u2], hargs =>
          simp only [VRs, and_true] at hargs
          obtain ⟨hu, hu2⟩ := hargs
          have hu2' : u2 = .int .i64 k := by simpa only [VR] using hu2
          subst hu2'
          cases q with
          | none =>
            have hu' : n = 0 ∧ c = 0 ∧ u = .slice none 0 0 := by simpa only [VR] using hu
            obtain ⟨rfl, rfl, rfl⟩ := hu'
            refine CallsIn.mono (ACall.soundIn hm hfns (H.bare none) (args := [.sl none 0 0 none, .int .i64 k]) ?_ hnil hF mm) ?_
            · simp [VRs, VR]
            · intro e' w' hR
              cases e' with
              | returned v' =>
                obtain ⟨v2, h2, ρ2, _, _, H2, _⟩ := hR
                exact ⟨v', rfl, by simp only [VR], H2.below⟩
              | panicked ch => exact hR.elim
              | outgrown => exact hR.elim
          | some q =>
            obtain ⟨p, y, c', g1, g2, g3, g4, g5⟩ := vSl hu
            subst g2
            refine CallsIn.mono (ACall.soundIn hm hfns (H.bare (some p)) (args := [.sl (some (P.globals.size, q.2)) n c none, .int .i64 k]) ?_ (hrun _ _ _ g3) hF mm) ?_
            · simp only [VRs, VR, and_true]
              exact ⟨p, y, c', by simp, rfl, g3, g4, g5⟩
            · intro e' w' hR
              cases e' with
              | returned v' =>
                obtain ⟨v2, h2, ρ2, _, _, H2, _⟩ := hR
                exact ⟨v', rfl, by simp only [VR], H2.below⟩
              | panicked ch => exact hR.elim
              | outgrown => exact hR.elim
        | [], hargs => simp [VRs] at hargs
        | [_], hargs => simp [VRs] at hargs
        | _ :: _ :: _ :: _, hargs => simp [VRs] at hargs
    · cases hmv
  · cases hmv

/-- The program's functions, some of them with what is known ahead. -/
def cFnM (P : Program) (mt : Nat → List AV → Heap → Option AV) (f : Nat) : Option AFn := (cFn P f).map fun fn => { fn with memo := mt f }

theorem cFnM_ok {P : Program} {mt : Nat → List AV → Heap → Option AV} (h : ∀ f, MemoOk P f (mt f)) : Fns P (cFnM P mt) := by
  intro f fn hf
  simp only [cFnM, Option.map_eq_some_iff] at hf
  obtain ⟨fn', h1, rfl⟩ := hf
  exact ⟨(cFn_ok P f fn' h1).1, h f⟩

theorem memo_none {P : Program} {f : Nat} : MemoOk P f (fun _ _ => none) := fun _ _ _ hm => by cases hm

end Go.Am

/- The abstract machine: the trace of a region that draws its order. Conditions: those that each lemma names. -/
import Derived.Test.YtmpdpcamgkndnaaGreatDoorAmDrw1
set_option linter.constructorNameAsVariable false
set_option linter.unusedSimpArgs false
set_option linter.unusedVariables false
namespace Go.Am
open Go.RowKit (Below)

/-! ### Frames of a region -/
def frm (X : Frm) (lo hi : Nat) (bs gone : List (Nat × Blk)) : Frm :=
  { x := fun n => match bs.lookup n with | some b => some b | none => X.x n
    z := fun n => X.z n || (decide (lo ≤ n) && decide (n < hi) && !(gone.map (·.1)).contains n && !(bs.map (·.1)).contains n) }

theorem lookup_some_mem {bs : List (Nat × Blk)} {n : Nat} {b : Blk} (h : bs.lookup n = some b) : (n, b) ∈ bs := by
  induction bs with
  | nil => simp at h
  | cons p ps ih =>
    rw [List.lookup_cons] at h
    by_cases hn : n = p.1
    · simp [hn] at h
      subst hn
      rw [← h]; simp
    · have : (n == p.1) = false := by simp [hn]
      simp [this] at h
      exact List.mem_cons_of_mem _ (ih h)

theorem lookup_none_not {bs : List (Nat × Blk)} {n : Nat} : bs.lookup n = none ↔ n ∉ bs.map (·.1) := by
  induction bs with
  | nil => simp
  | cons p ps ih =>
    rw [List.lookup_cons]
    by_cases hn : n = p.1
    · simp [hn]
    · have : (n == p.1) = false := by simp [hn]
      simp [this, ih, hn]

theorem lookup_append (a b : List (Nat × Blk)) (n : Nat) : (a ++ b).lookup n = (match a.lookup n with | some x => some x | none => b.lookup n) := by
  induction a with
  | nil => rfl
  | cons p ps ih =>
    obtain ⟨k, c⟩ := p
    simp only [List.cons_append, List.lookup_cons]
    by_cases hn : n = k
    · simp [hn]
    · have : (n == k) = false := by simp [hn]
      simp [this, ih]

section
variable {P : Program} {w0 : World} {ρ : Ren} {X : Frm} {h : Heap} {w : World} {lo hi : Nat} {c1 c2 b1 b2 g : List (Nat × Blk)}

theorem frm_take (H : HR P w0 ρ (frm X lo hi (c1 ++ c2) g) h w) {n : Nat} {b : Blk} (h1 : lo ≤ n ∧ n < hi) (h2 : n ∉ g.map (·.1)) (h3 : n ∉ (c1 ++ c2).map (·.1)) (hX : ∀ n, X.z n = true → n < lo)
    {o : Obj} {sz : Nat} {w' : World} (hh : w'.heap = w.heap.push o) (ho : w'.os = w.os) (ht : w'.tape = w.tape) (hp : w'.output = w.output)
    (hb : BR P (ρ.put n (w.heap.size, 0, sz)) (w.heap.size, 0, sz) b (some o)) :
    ρ n = none ∧ HR P w0 (ρ.put n (w.heap.size, 0, sz)) (frm X lo hi (c1 ++ (n, b) :: c2) g) h w' := by
  have hz : (frm X lo hi (c1 ++ c2) g).z n = true := by
    simp only [frm, Bool.or_eq_true, Bool.and_eq_true, decide_eq_true_eq, Bool.not_eq_true', List.contains_eq_mem, decide_eq_false_iff_not]
    exact .inr ⟨⟨h1, h2⟩, h3⟩
  refine ⟨(H.dead n hz).1, ?_⟩
  have H1 := H.newX hz hh ho ht hp hb
  have hxn : ∀ j c, (frm X lo hi (c1 ++ (n, b) :: c2) g).x j = some c → ((frm X lo hi (c1 ++ c2) g).take n b).x j = some c := by
    intro j c hj
    simp only [frm, Frm.take] at hj ⊢
    by_cases hjn : j = n
    · subst hjn
      rw [if_pos rfl]
      have hc1 : c1.lookup j = none := lookup_none_not.2 (fun hm => h3 (by simp only [List.map_append, List.mem_append]; exact .inl hm))
      simp only [lookup_append, hc1, List.lookup_cons, beq_self_eq_true] at hj
      exact hj
    · rw [if_neg hjn]
      have : (j == n) = false := by simp [hjn]
      simp only [lookup_append, List.lookup_cons, this] at hj ⊢
      exact hj
  refine H1.reframe (Nat.le_refl _) ?_ ?_ ?_
  · intro j c hl
    rcases hl with hl | hl
    · exact .inl hl
    · exact .inr (hxn j c hl)
  · intro j c hg
    have := H1.disj j c hg
    cases hx : (frm X lo hi (c1 ++ (n, b) :: c2) g).x j with
    | none => rfl
    | some d => rw [hxn j d hx] at this; cases this
  · intro j hj
    have hjn : j ≠ n := by
      intro he; subst he
      simp only [frm, Bool.or_eq_true, Bool.and_eq_true, Bool.not_eq_true', List.contains_eq_mem, decide_eq_false_iff_not] at hj
      rcases hj with hj | hj
      · have := hX _ hj; omega
      · exact hj.2 (by simp)
    refine H1.dead j ?_
    simp only [Frm.take, hjn, if_false]
    simp only [frm, Bool.or_eq_true, Bool.and_eq_true, decide_eq_true_eq, Bool.not_eq_true', List.contains_eq_mem, decide_eq_false_iff_not] at hj ⊢
    refine hj.imp id fun hj => ⟨hj.1, fun hm => hj.2 ?_⟩
    simp only [List.map_append, List.mem_append, List.map_cons, List.mem_cons] at hm ⊢
    rcases hm with hm | hm
    · exact .inl hm
    · exact .inr (.inr hm)

theorem frm_merge (H : HR P w0 ρ (frm X lo hi (b1 ++ b2) g) h w) (hnd : ((b1 ++ b2).map (·.1)).Nodup) (hlo : ∀ p ∈ b1, lo ≤ p.1) (hX : ∀ n, lo ≤ n → X.x n = none) :
    HR P w0 ρ (frm X lo hi b2 (g ++ b1)) (h.putL b1) w := by
  simp only [List.map_append, List.nodup_append] at hnd
  obtain ⟨n1, n2, n3⟩ := hnd
  have hlt : ∀ p ∈ b1, p.1 < h.next := by
    intro p hp
    have hl : ∃ c, b1.lookup p.1 = some c := by
      cases hc : b1.lookup p.1 with
      | none => exact absurd (List.mem_map.2 ⟨p, hp, rfl⟩) (lookup_none_not.1 hc)
      | some c => exact ⟨c, rfl⟩
    obtain ⟨c, hc⟩ := hl
    have hx : (frm X lo hi (b1 ++ b2) g).x p.1 = some c := by simp [frm, lookup_append, hc]
    rcases Nat.lt_or_ge p.1 h.next with hh | hh
    · exact hh
    · have := (H.fresh _ hh).2
      rw [hx] at this; cases this
  have hdis : ∀ n c, b1.lookup n = some c → b2.lookup n = none := by
    intro n c hc
    rw [lookup_none_not]
    intro hm
    exact n3 n (List.mem_map.2 ⟨_, lookup_some_mem hc, rfl⟩) n hm rfl
  have hxs : ∀ n c, (frm X lo hi b2 (g ++ b1)).x n = some c → (frm X lo hi (b1 ++ b2) g).x n = some c := by
    intro n c hx
    simp only [frm, lookup_append] at hx ⊢
    cases h1 : b1.lookup n with
    | none => exact hx
    | some c' =>
      rw [hdis n c' h1] at hx
      simp only at hx
      have := hlo _ (lookup_some_mem h1)
      rw [hX n this] at hx; cases hx
  refine H.reframe (by rw [Heap.putL_next]; exact Nat.le_refl _) ?_ ?_ ?_
  · intro n c hl
    rcases hl with hl | hl
    · rw [Heap.putL_get _ _ _ hlt n1] at hl
      cases h1 : b1.lookup n with
      | none => rw [h1] at hl; exact .inl hl
      | some c' =>
        rw [h1] at hl
        cases hl
        exact .inr (by simp [frm, lookup_append, h1])
    · exact .inr (hxs n c hl)
  · intro n c hg
    rw [Heap.putL_get _ _ _ hlt n1] at hg
    cases h1 : b1.lookup n with
    | none =>
      rw [h1] at hg
      have := H.disj n c hg
      cases hx : (frm X lo hi b2 (g ++ b1)).x n with
      | none => rfl
      | some d => rw [hxs n d hx] at this; cases this
    | some c' =>
      simp only [frm, hdis n c' h1]
      exact hX n (hlo _ (lookup_some_mem h1))
  · intro n hz
    rw [Heap.putL_next]
    refine H.dead n ?_
    simp only [frm, Bool.or_eq_true, Bool.and_eq_true, decide_eq_true_eq, Bool.not_eq_true', List.contains_eq_mem, decide_eq_false_iff_not] at hz ⊢
    refine hz.imp id fun hz => ⟨⟨hz.1.1, fun hm => hz.1.2 ?_⟩, fun hm => ?_⟩
    · rw [List.map_append, List.mem_append] at hm
      rcases hm with hm | hm
      · exact hz.1.2 (by rw [List.map_append, List.mem_append]; exact .inr hm)
      · exact hz.2 hm
    · rw [List.map_append, List.mem_append]; exact .inl hm
end

/-! ### Traces -/
structure Ev where
  d : DOpr
  b : Bool
  v : AV
  blk : Option (Nat × Blk)
  h' : Heap

def Ev.isE (e : Ev) : Bool := e.d.o.op.cls == .eff
def Ev.isA (e : Ev) : Bool := e.d.o.op.cls == .alloc

def Sd.nx (s : Sd) (e : Ev) : Sd :=
  { nm := if e.isA then s.nm + 1 else s.nm
    t := setO s.t e.d.o.dst e.v
    k := if e.isE then e.h' else s.k
    ks := if e.isE then (e.d.i, s.k) :: s.ks else s.ks
    pend := if e.isE then [] else s.pend ++ e.blk.toList }

def Ok (fns : Nat → Option AFn) (rec : Rec) (s : Sd) (e : Ev) : Prop :=
  e.d.o.want s.t = some e.b ∧
  (e.b = false → e.v = undefA ∧ e.blk = none ∧ (e.isE = true → e.h' = s.k.putL s.pend)) ∧
  (e.b = true → match e.d.o.op.cls with
    | .pure => qv Heap.empty s.t e.d.o.op = some e.v ∧ e.blk = none
    | .read => qv s.k s.t e.d.o.op = some e.v ∧ s.sure e.d e.v = true ∧ e.blk = none
    | .alloc => ∃ b f, al s.t e.d.o.op = some (b, f) ∧ e.v = f s.nm ∧ e.blk = some (s.nm, b)
    | .eff => e.blk = none ∧ ∀ K' : AV → Heap → Prop, K' e.v e.h' → aeff fns rec s.t (s.k.putL s.pend) K' e.d.o.op)

def Good (fns : Nat → Option AFn) (rec : Rec) : List Ev → Sd → Prop
  | [], _ => True
  | e :: es, s => Ok fns rec s e ∧ Good fns rec es (s.nx e)

abbrev stOf (s : Sd) (A : List Ev) : Sd := A.foldl Sd.nx s

section
variable {fns : Nat → Option AFn} {rec : Rec}

theorem runD_trace : ∀ (ds : List DOpr) (s : Sd) (K : List AV → Heap → Prop), runD fns rec ds s K → ∃ evs : List Ev, evs.map (·.d) = ds ∧ Good fns rec evs s ∧ K (stOf s evs).t ((stOf s evs).k.putL (stOf s evs).pend)
  | [], s, K, h => ⟨[], rfl, trivial, h⟩
  | d :: ds, s, K, h => by
    have go : ∀ e : Ev, e.d = d → Ok fns rec s e → runD fns rec ds (s.nx e) K → ∃ evs : List Ev, evs.map (·.d) = d :: ds ∧ Good fns rec evs s ∧ K (stOf s evs).t ((stOf s evs).k.putL (stOf s evs).pend) := by
      intro e he hok hr
      obtain ⟨evs, h1, h2, h3⟩ := runD_trace ds _ K hr
      exact ⟨e :: evs, by simp [he, h1], ⟨hok, h2⟩, h3⟩
    simp only [runD] at h
    split at h
    · exact h.elim
    · rename_i hw
      -- not wanted
      refine go { d, b := false, v := undefA, blk := none, h' := s.k.putL s.pend } rfl ⟨hw, fun _ => ⟨rfl, rfl, fun _ => rfl⟩, fun hb => by cases hb⟩ ?_
      have : s.nx { d, b := false, v := undefA, blk := none, h' := s.k.putL s.pend } = s.skip d := by
        cases hc : d.o.op.cls <;> simp [Sd.nx, Sd.skip, Ev.isA, Ev.isE, hc]
      rw [this]; exact h
    · rename_i hw
      split at h
      · rename_i hcl
        split at h
        · rename_i v hv
          refine go { d, b := true, v, blk := none, h' := Heap.empty } rfl ⟨hw, (fun hb => by cases hb), fun _ => by simp only [hcl]; exact ⟨hv, trivial⟩⟩ ?_
          have : s.nx { d, b := true, v, blk := none, h' := Heap.empty } = { s with t := setO s.t d.o.dst v } := by simp [Sd.nx, Ev.isA, Ev.isE, hcl]
          rw [this]; exact h
        · exact h.elim
      · rename_i hcl
        split at h
        · rename_i v hv
          split at h
          · rename_i hs
            refine go { d, b := true, v, blk := none, h' := Heap.empty } rfl ⟨hw, (fun hb => by cases hb), fun _ => by simp only [hcl]; exact ⟨hv, hs, trivial⟩⟩ ?_
            have : s.nx { d, b := true, v, blk := none, h' := Heap.empty } = { s with t := setO s.t d.o.dst v } := by simp [Sd.nx, Ev.isA, Ev.isE, hcl]
            rw [this]; exact h
          · exact h.elim
        · exact h.elim
      · rename_i hcl
        split at h
        · rename_i b f hv
          refine go { d, b := true, v := f s.nm, blk := some (s.nm, b), h' := Heap.empty } rfl ⟨hw, (fun hb => by cases hb), fun _ => by simp only [hcl]; exact ⟨b, f, hv, rfl, rfl⟩⟩ ?_
          have : s.nx { d, b := true, v := f s.nm, blk := some (s.nm, b), h' := Heap.empty } = { s with nm := s.nm + 1, t := setO s.t d.o.dst (f s.nm), pend := s.pend ++ [(s.nm, b)] } := by simp [Sd.nx, Ev.isA, Ev.isE, hcl]
          rw [this]; exact h
        · exact h.elim
      · rename_i hcl
        obtain ⟨v, h', h1, h2⟩ := h
        refine go { d, b := true, v, blk := none, h' } rfl ⟨hw, (fun hb => by cases hb), fun _ => by simp only [hcl]; exact ⟨trivial, h1⟩⟩ ?_
        have : s.nx { d, b := true, v, blk := none, h' } = { s with t := setO s.t d.o.dst v, k := h', ks := (d.i, s.k) :: s.ks, pend := [] } := by simp [Sd.nx, Ev.isA, Ev.isE, hcl]
        rw [this]; exact h2

theorem good_split : ∀ (A B : List Ev) (s : Sd), Good fns rec (A ++ B) s → Good fns rec A s ∧ Good fns rec B (stOf s A)
  | [], B, s, h => ⟨trivial, h⟩
  | e :: A, B, s, h => by
    obtain ⟨h1, h2⟩ := h
    obtain ⟨h3, h4⟩ := good_split A B _ h2
    exact ⟨⟨h1, h3⟩, h4⟩

def tOf (t : List AV) (A : List Ev) : List AV := A.foldl (fun t e => setO t e.d.o.dst e.v) t
def bOf (A : List Ev) : List (Nat × Blk) := A.filterMap (·.blk)

theorem bOf_append (A B : List Ev) : bOf (A ++ B) = bOf A ++ bOf B := by simp [bOf]
theorem tOf_append (t : List AV) (A B : List Ev) : tOf t (A ++ B) = tOf (tOf t A) B := by simp [tOf]

theorem st_t : ∀ (A : List Ev) (s : Sd), (stOf s A).t = tOf s.t A
  | [], s => rfl
  | e :: A, s => by
    show (stOf (s.nx e) A).t = _
    rw [st_t A]; rfl

theorem st_quiet : ∀ (B : List Ev) (s : Sd), (∀ e ∈ B, e.isE = false) → (stOf s B).k = s.k ∧ (stOf s B).pend = s.pend ++ bOf B
  | [], s, _ => ⟨rfl, by simp [bOf]⟩
  | e :: B, s, h => by
    have he := h e (by simp)
    obtain ⟨h1, h2⟩ := st_quiet B (s.nx e) fun q hq => h q (by simp [hq])
    constructor
    · show (stOf (s.nx e) B).k = _
      rw [h1]; simp [Sd.nx, he]
    · show (stOf (s.nx e) B).pend = _
      rw [h2]
      simp only [Sd.nx, he, Bool.false_eq_true, if_false, bOf, List.filterMap_cons, List.append_assoc]
      cases e.blk <;> simp

theorem ks_mono : ∀ (B : List Ev) (s : Sd) (p : Nat × Heap), p ∈ s.ks → p ∈ (stOf s B).ks
  | [], s, p, h => h
  | e :: B, s, p, h => by
    show p ∈ (stOf (s.nx e) B).ks
    refine ks_mono B _ p ?_
    simp only [Sd.nx]
    split
    · exact List.mem_cons_of_mem _ h
    · exact h

/-- The heap ahead of the first effect is among those that are looked at. -/
theorem ks_first : ∀ (B : List Ev) (s : Sd), (∃ e ∈ B, e.isE = true) → ∃ e ∈ B, e.isE = true ∧ (e.d.i, s.k) ∈ (stOf s B).ks
  | [], s, h => by obtain ⟨e, he, _⟩ := h; simp at he
  | e :: B, s, h => by
    by_cases he : e.isE = true
    · refine ⟨e, by simp, he, ?_⟩
      show _ ∈ (stOf (s.nx e) B).ks
      refine ks_mono B _ _ ?_
      simp [Sd.nx, he]
    · obtain ⟨q, hq, hqe⟩ := h
      have hqB : q ∈ B := by
        rcases List.mem_cons.1 hq with rfl | hq
        · exact absurd hqe he
        · exact hq
      obtain ⟨q', h1, h2, h3⟩ := ks_first B (s.nx e) ⟨q, hqB, hqe⟩
      refine ⟨q', by simp [h1], h2, ?_⟩
      have : (s.nx e).k = s.k := by simp [Sd.nx, he]
      rw [this] at h3; exact h3

theorem st_nm : ∀ (A : List Ev) (s : Sd), (stOf s A).nm = s.nm + (A.filter Ev.isA).length
  | [], s => rfl
  | e :: A, s => by
    show (stOf (s.nx e) A).nm = _
    rw [st_nm A]
    by_cases he : e.isA = true
    · simp [Sd.nx, he]; omega
    · simp [Sd.nx, he]

theorem ok_blk {s : Sd} {e : Ev} (h : Ok fns rec s e) {p : Nat × Blk} (hp : e.blk = some p) : e.isA = true ∧ p.1 = s.nm ∧ e.isE = false ∧ e.b = true := by
  obtain ⟨_, h2, h3⟩ := h
  cases hb : e.b with
  | false => rw [(h2 hb).2.1] at hp; cases hp
  | true =>
    have h3 := h3 hb
    simp only [Ev.isA, Ev.isE]
    cases hc : e.d.o.op.cls with
    | pure => simp only [hc] at h3; rw [h3.2] at hp; cases hp
    | read => simp only [hc] at h3; rw [h3.2.2] at hp; cases hp
    | alloc => simp only [hc] at h3; obtain ⟨b, f, _, _, h4⟩ := h3; rw [h4] at hp; cases hp; exact ⟨rfl, rfl, rfl, trivial⟩
    | eff => simp only [hc] at h3; rw [h3.1] at hp; cases hp

/-- Names of the blocks of a trace: between the first and the last, each once. -/
theorem good_names : ∀ (A : List Ev) (s : Sd), Good fns rec A s → (∀ p ∈ bOf A, s.nm ≤ p.1 ∧ p.1 < (stOf s A).nm) ∧ ((bOf A).map (·.1)).Nodup
  | [], s, _ => ⟨fun p hp => by simp [bOf] at hp, by simp [bOf]⟩
  | e :: A, s, h => by
    obtain ⟨h1, h2⟩ := h
    obtain ⟨h3, h4⟩ := good_names A _ h2
    have hst : stOf s (e :: A) = stOf (s.nx e) A := rfl
    have hge : (stOf (s.nx e) A).nm ≥ (s.nx e).nm := by rw [st_nm]; omega
    cases hb : e.blk with
    | none =>
      have hbo : bOf (e :: A) = bOf A := by simp [bOf, hb]
      rw [hbo, hst]
      refine ⟨fun p hp => ?_, h4⟩
      have := h3 p hp
      have hn : s.nm ≤ (s.nx e).nm := by simp only [Sd.nx]; split <;> omega
      omega
    | some q =>
      obtain ⟨k1, k2, k3, _⟩ := ok_blk h1 hb
      have hbo : bOf (e :: A) = q :: bOf A := by simp [bOf, hb]
      have hn : (s.nx e).nm = s.nm + 1 := by simp [Sd.nx, k1]
      rw [hbo, hst]
      refine ⟨fun p hp => ?_, ?_⟩
      · rcases List.mem_cons.1 hp with rfl | hp
        · omega
        · have := h3 p hp; omega
      · simp only [List.map_cons, List.nodup_cons]
        refine ⟨fun hm => ?_, h4⟩
        obtain ⟨p, hp, he⟩ := List.mem_map.1 hm
        have := h3 p hp
        omega

/-! ### Slots -/
theorem setO_length (t : List AV) (d : Option Nat) (v : AV) : (setO t d v).length = t.length := by cases d <;> simp [setO]
theorem setO_getD (t : List AV) (d : Option Nat) (v : AV) (u : Nat) : (setO t d v).getD u undefA = if d = some u ∧ u < t.length then v else t.getD u undefA := by
  cases d with
  | none => simp [setO]
  | some d =>
    simp only [setO, List.getD, List.getElem?_set]
    by_cases hd : d = u
    · subst hd
      by_cases hl : d < t.length
      · simp [hl]
      · simp [hl]
    · simp [hd]

theorem tOf_length : ∀ (C : List Ev) (t : List AV), (tOf t C).length = t.length
  | [], t => rfl
  | e :: C, t => by show (tOf (setO t e.d.o.dst e.v) C).length = _; rw [tOf_length C, setO_length]

theorem tOf_sel {p : Ev → Bool} {u : Nat} : ∀ (C : List Ev) (t1 t2 : List AV), t1.length = t2.length → t1.getD u undefA = t2.getD u undefA → (∀ q ∈ C, p q = false → q.d.o.dst ≠ some u) →
    (tOf t1 (C.filter p)).getD u undefA = (tOf t2 C).getD u undefA
  | [], t1, t2, hl, h, _ => h
  | e :: C, t1, t2, hl, h, hp => by
    cases hpe : p e with
    | true =>
      rw [List.filter_cons_of_pos (by simpa using hpe)]
      show (tOf (setO t1 e.d.o.dst e.v) (C.filter p)).getD u undefA = (tOf (setO t2 e.d.o.dst e.v) C).getD u undefA
      refine tOf_sel C _ _ (by simp [setO_length, hl]) ?_ fun q hq => hp q (by simp [hq])
      rw [setO_getD, setO_getD, hl, h]
    | false =>
      rw [List.filter_cons_of_neg (by simp [hpe])]
      show (tOf t1 (C.filter p)).getD u undefA = (tOf (setO t2 e.d.o.dst e.v) C).getD u undefA
      refine tOf_sel C _ _ (by simp [setO_length, hl]) ?_ fun q hq => hp q (by simp [hq])
      rw [setO_getD, if_neg (fun hh => hp e (by simp) hpe hh.1)]
      exact h

theorem tOf_other {u : Nat} (C : List Ev) (t : List AV) (h : ∀ q ∈ C, q.d.o.dst ≠ some u) : (tOf t C).getD u undefA = t.getD u undefA := by
  have := tOf_sel (p := fun _ => false) (u := u) C t t rfl rfl fun q hq _ => h q hq
  rw [← this, List.filter_eq_nil_iff.2 (by simp)]
  rfl

theorem setO_comm (t : List AV) {a b : Option Nat} (v w : AV) (h : ∀ d, a = some d → b ≠ some d) : setO (setO t a v) b w = setO (setO t b w) a v := by
  cases a with
  | none => rfl
  | some a =>
    cases b with
    | none => rfl
    | some b =>
      have : a ≠ b := fun he => h a rfl (he ▸ rfl)
      simp only [setO]
      exact List.set_comm _ _ this

theorem tOf_late (e : Ev) : ∀ (C : List Ev) (t : List AV), (∀ q ∈ C, ∀ d, e.d.o.dst = some d → q.d.o.dst ≠ some d) → setO (tOf t C) e.d.o.dst e.v = tOf t (e :: C)
  | [], t, _ => rfl
  | q :: C, t, h => by
    show setO (tOf (setO t q.d.o.dst q.v) C) e.d.o.dst e.v = tOf (setO (setO t e.d.o.dst e.v) q.d.o.dst q.v) C
    rw [tOf_late e C _ fun r hr => h r (by simp [hr])]
    show tOf (setO (setO t q.d.o.dst q.v) e.d.o.dst e.v) C = _
    rw [setO_comm t e.v q.v fun d hd => h q (by simp) d hd]

end
end Go.Am

/- The abstract machine against the model: a region that draws its order. Conditions: those that each lemma names. -/
import Derived.Test.YtmpdpcamgkndnaaGreatDoorAmDrw2
set_option linter.constructorNameAsVariable false
set_option linter.unusedSimpArgs false
set_option linter.unusedVariables false
namespace Go.Am
open Go.RowKit (Below)

mutual
theorem AV.beq_eq : ∀ (a b : AV), AV.beq a b = true → a = b
  | .bool a, b, h => by cases b <;> simp_all [AV.beq]
  | .int k a, b, h => by cases b <;> simp_all [AV.beq]
  | .str a, b, h => by cases b <;> simp_all [AV.beq]
  | .ptr a, b, h => by cases b <;> simp_all [AV.beq]
  | .sl a l c e, b, h => by cases b <;> simp_all [AV.beq]
  | .map a, b, h => by cases b <;> simp_all [AV.beq]
  | .fn f l, b, h => by
    cases b with
    | fn g m =>
      simp only [AV.beq, Bool.and_eq_true, beq_iff_eq] at h
      rw [h.1, AV.beqL_eq l m h.2]
    | _ => simp [AV.beq] at h
  | .yield a, b, h => by cases b <;> simp_all [AV.beq]
  | .nilf, b, h => by cases b <;> simp_all [AV.beq]
  | .agg l, b, h => by
    cases b with
    | agg m => simp only [AV.beq] at h; rw [AV.beqL_eq l m h]
    | _ => simp [AV.beq] at h
  | .tup l, b, h => by
    cases b with
    | tup m => simp only [AV.beq] at h; rw [AV.beqL_eq l m h]
    | _ => simp [AV.beq] at h
  | .top, b, h => by cases b <;> simp [AV.beq] at h
theorem AV.beqL_eq : ∀ (a b : List AV), AV.beqL a b = true → a = b
  | [], [], _ => rfl
  | a :: l, b :: m, h => by
    simp only [AV.beqL, Bool.and_eq_true] at h
    rw [AV.beq_eq a b h.1, AV.beqL_eq l m h.2]
  | [], _ :: _, h => by simp [AV.beqL] at h
  | _ :: _, [], h => by simp [AV.beqL] at h
end
theorem beqO_eq {o : Option AV} {v : AV} (h : beqO o v = true) : o = some v := by
  cases o with
  | none => simp [beqO] at h
  | some a => rw [AV.beq_eq a v h]

/-! ### The schedule -/
theorem chk_at {as : List AOpr} {es : List (List Nat)} {ms : List Nat} {i : Nat} {L2 : List Nat} : ∀ (L1 done : List Nat), chkD as es ms (L1 ++ i :: L2) done = true →
    i < as.length ∧ (∀ q, q ∈ done ∨ q ∈ L1 → q ≠ i) ∧ (∀ e ∈ es.getD i [], e ∈ done ∨ e ∈ L1) ∧
    ∀ q, q ∈ done ∨ q ∈ L1 → (ms.getD i 0).testBit q = true ∨ ((as.getD i default).isEff = false ∧ (as.getD q default).apart (as.getD i default) = true)
  | [], done, h => by
    simp only [List.nil_append, chkD, Bool.and_eq_true, decide_eq_true_eq, Bool.not_eq_true', List.contains_eq_mem, decide_eq_false_iff_not, List.all_eq_true, Bool.or_eq_true] at h
    obtain ⟨⟨⟨⟨h1, h2⟩, h3⟩, h4⟩, _⟩ := h
    refine ⟨h1, fun q hq he => ?_, fun e he => .inl (h3 e he), fun q hq => ?_⟩
    · rcases hq with hq | hq
      · exact h2 (he ▸ hq)
      · simp at hq
    · rcases hq with hq | hq
      · exact h4 q hq
      · simp at hq
  | j :: L1, done, h => by
    simp only [List.cons_append, chkD, Bool.and_eq_true] at h
    obtain ⟨h1, h2, h3, h4⟩ := chk_at L1 (j :: done) h.2
    have conv : ∀ q, q ∈ done ∨ q ∈ j :: L1 → q ∈ j :: done ∨ q ∈ L1 := by
      intro q hq
      rcases hq with hq | hq
      · exact .inl (List.mem_cons_of_mem _ hq)
      · rcases List.mem_cons.1 hq with rfl | hq
        · exact .inl (by simp)
        · exact .inr hq
    have conv' : ∀ q, q ∈ j :: done ∨ q ∈ L1 → q ∈ done ∨ q ∈ j :: L1 := by
      intro q hq
      rcases hq with hq | hq
      · rcases List.mem_cons.1 hq with rfl | hq
        · exact .inr (by simp)
        · exact .inl hq
      · exact .inr (List.mem_cons_of_mem _ hq)
    exact ⟨h1, fun q hq => h2 q (conv q hq), fun e he => conv' e (h3 e he), fun q hq => h4 q (conv q hq)⟩

theorem maskOf_bit {acc : List Nat} {q : Nat} : ∀ (es : List Nat) (s : Nat), (es.foldl (fun s e => s ||| 2 ^ e ||| acc.getD e 0) s).testBit q = true → s.testBit q = true ∨ ∃ e ∈ es, q = e ∨ (acc.getD e 0).testBit q = true
  | [], s, h => .inl h
  | e :: es, s, h => by
    simp only [List.foldl_cons] at h
    rcases maskOf_bit es _ h with h | ⟨e', h1, h2⟩
    · simp only [Nat.testBit_or, Bool.or_eq_true, Nat.testBit_two_pow, decide_eq_true_eq] at h
      rcases h with (h | h) | h
      · exact .inl h
      · exact .inr ⟨e, by simp, .inl h.symm⟩
      · exact .inr ⟨e, by simp, .inr h⟩
    · exact .inr ⟨e', by simp [h1], h2⟩

theorem masks_pre : ∀ (ops : List Oper) (acc : List Nat) (j : Nat), j < acc.length → (masksF ops acc).getD j 0 = acc.getD j 0
  | [], acc, j, _ => rfl
  | o :: os, acc, j, h => by
    simp only [masksF]
    rw [masks_pre os _ j (by simp; omega)]
    simp only [List.getD, List.getElem?_append_left h]

theorem masks_at : ∀ (ops : List Oper) (acc : List Nat) (i : Nat) (o : Oper), ops[i]? = some o →
    ∃ acc' : List Nat, (∀ e q, (acc'.getD e 0).testBit q = true → ((masksF ops acc).getD e 0).testBit q = true) ∧ (masksF ops acc).getD (acc.length + i) 0 = maskOf (edgesOf o) acc'
  | [], acc, i, o, h => by simp at h
  | p :: os, acc, 0, o, h => by
    simp only [List.getElem?_cons_zero, Option.some.injEq] at h
    subst h
    refine ⟨acc, fun e q hq => ?_, ?_⟩
    · by_cases he : e < acc.length
      · rw [masks_pre _ _ _ he]; exact hq
      · simp [List.getD, List.getElem?_eq_none (show acc.length ≤ e by omega)] at hq
    · simp only [masksF, Nat.add_zero]
      rw [masks_pre _ _ _ (by simp)]
      simp [List.getD]
  | p :: os, acc, i + 1, o, h => by
    simp only [List.getElem?_cons_succ] at h
    obtain ⟨acc', h1, h2⟩ := masks_at os (acc ++ [maskOf (edgesOf p) acc]) i o h
    refine ⟨acc', fun e q hq => by simp only [masksF]; exact h1 e q hq, ?_⟩
    simp only [masksF]
    rw [← h2]
    congr 1
    simp; omega

theorem mask_bit {ops : List Oper} {i q : Nat} {o : Oper} (ho : ops[i]? = some o) (h : ((masksF ops []).getD i 0).testBit q = true) : ∃ e ∈ edgesOf o, q = e ∨ ((masksF ops []).getD e 0).testBit q = true := by
  obtain ⟨acc', h1, h2⟩ := masks_at ops [] i o ho
  simp only [List.length_nil, Nat.zero_add] at h2
  rw [h2] at h
  rcases maskOf_bit _ _ h with h | ⟨e, he, h⟩
  · simp at h
  · exact ⟨e, he, h.imp id (h1 e q)⟩

theorem cOpers_at {P : Program} {ops : Array Oper} : ∀ (l : List Oper) (as : List AOpr), cOpers P ops l = some as → as.length = l.length ∧ ∀ i o, l[i]? = some o → cOper P ops o = some (as.getD i default)
  | [], as, h => by cases h; exact ⟨rfl, fun i o hi => by simp at hi⟩
  | p :: l, as, h => by
    simp only [cOpers] at h
    split at h
    · rename_i a as' h1 h2
      cases h
      obtain ⟨k1, k2⟩ := cOpers_at l as' h2
      refine ⟨by simp [k1], fun i o hi => ?_⟩
      cases i with
      | zero => simp only [List.getElem?_cons_zero, Option.some.injEq] at hi; subst hi; simpa using h1
      | succ i => simp only [List.getElem?_cons_succ] at hi; simpa using k2 i o hi
    · cases h

theorem apart_spec {a b : AOpr} (h : a.apart b = true) : (∀ d, a.dst = some d → d ∉ b.uses) ∧ (∀ d, b.dst = some d → d ∉ a.uses) := by
  unfold AOpr.apart at h
  simp only [Bool.and_eq_true] at h
  refine ⟨fun d hd => ?_, fun d hd => ?_⟩
  · have := h.1; rw [hd] at this; simpa using this
  · have := h.2; rw [hd] at this; simpa using this

theorem dst_uses {a : AOpr} {d : Nat} (h : a.dst = some d) : d ∈ a.uses := by simp [AOpr.uses, h]

/-- What is known of a trace's order. -/
structure Sch (ops : Array Oper) (as : List AOpr) (evs : List Ev) : Prop where
  at_ : ∀ C e D, evs = C ++ e :: D → e.d.o = as.getD e.d.i default ∧ e.d.m = (masksF ops.toList []).getD e.d.i 0 ∧ e.d.i < as.length ∧ (∀ q ∈ C, q.d.i ≠ e.d.i) ∧
    (∀ x ∈ (ops.toList.map edgesOf).getD e.d.i [], ∃ q ∈ C, q.d.i = x) ∧ ∀ q ∈ C, e.d.m.testBit q.d.i = true ∨ (e.isE = false ∧ q.d.o.apart e.d.o = true)
  all_ : ∀ i, i < as.length → ∃ e ∈ evs, e.d.i = i

theorem sch_of {ops : Array Oper} {as : List AOpr} {m : Nat} {ds : List DOpr} (h : cD ops.toList as = some (.regD m ds)) {evs : List Ev} (he : evs.map (·.d) = ds) :
    Sch ops as evs ∧ m = (evs.filter Ev.isA).length ∧ evs.length = as.length := by
  unfold cD at h
  simp only [] at h
  split at h
  · rename_i hc
    simp only [Option.some.injEq, AC.regD.injEq] at h
    obtain ⟨h1, h2⟩ := h
    simp only [Bool.and_eq_true, List.all_eq_true, List.mem_range, List.contains_eq_mem, decide_eq_true_eq, beq_iff_eq] at hc
    obtain ⟨⟨hLl, hall⟩, hchk⟩ := hc
    generalize canonF as.length (masksF ops.toList []) ((List.range as.length).filter fun i => (as.getD i default).isEff) [] = L at h1 h2 hall hchk hLl
    have hmap : evs.map (·.d) = L.map fun i => { o := as.getD i default, i, m := (masksF ops.toList []).getD i 0 : DOpr } := by rw [he, h2]
    have hL : evs.map (·.d.i) = L := by
      have := congrArg (List.map DOpr.i) hmap
      simpa [Function.comp_def] using this
    have hone : ∀ e ∈ evs, e.d.o = as.getD e.d.i default ∧ e.d.m = (masksF ops.toList []).getD e.d.i 0 := by
      intro e hm
      have : e.d ∈ evs.map (·.d) := List.mem_map.2 ⟨e, hm, rfl⟩
      rw [hmap] at this
      obtain ⟨i, _, hi⟩ := List.mem_map.1 this
      rw [← hi]; exact ⟨rfl, rfl⟩
    refine ⟨⟨fun C e D hev => ?_, fun i hi => ?_⟩, ?_, by rw [← hLl, ← hL, List.length_map]⟩
    · have hm : e ∈ evs := by rw [hev]; simp
      obtain ⟨k1, k2⟩ := hone e hm
      have hLs : L = C.map (·.d.i) ++ e.d.i :: D.map (·.d.i) := by rw [← hL, hev]; simp
      rw [hLs] at hchk
      obtain ⟨g1, g2, g3, g4⟩ := chk_at _ _ hchk
      have hin : ∀ q ∈ C, q.d.i ∈ C.map (·.d.i) := fun q hq => List.mem_map.2 ⟨q, hq, rfl⟩
      refine ⟨k1, k2, g1, fun q hq => g2 _ (.inr (hin q hq)), fun x hx => ?_, fun q hq => ?_⟩
      · rcases g3 x hx with h | h
        · simp at h
        · obtain ⟨q, hq, rfl⟩ := List.mem_map.1 h; exact ⟨q, hq, rfl⟩
      · have hqe : q ∈ evs := by rw [hev]; simp [hq]
        rcases g4 _ (.inr (hin q hq)) with h | ⟨h, h'⟩
        · left; rw [k2]; exact h
        · right
          refine ⟨?_, ?_⟩
          · rw [← k1] at h; exact h
          · rw [k1, (hone q hqe).1]; exact h'
    · have : i ∈ L := hall i hi
      rw [← hL] at this
      obtain ⟨e, h, h'⟩ := List.mem_map.1 this
      exact ⟨e, h, h'⟩
    · rw [← h1, ← hmap, List.filter_map, List.length_map]
      rfl
  · cases h

/-! ### The run -/
def selB (lst : Nat → Bool) (B : List Ev) : List Ev := B.filter fun e => lst e.d.i

theorem selB_append (lst : Nat → Bool) (A B : List Ev) : selB lst (A ++ B) = selB lst A ++ selB lst B := by simp [selB]

section
variable {P : Program} {w0 : World} {fns : Nat → Option AFn} {rec : Rec} {ρ : Ren} {X : Frm} {F : Fence} {ops : Array Oper}

structure Inv (P : Program) (w0 : World) (ops : Array Oper) (X : Frm) (ρ : Ren) (s0 : Sd) (hi : Nat) (sd : List Nat) (evs : List Ev) (lst : Nat → Bool) (a : Act) (w : World) (A B : List Ev) (ρ' : Ren) : Prop where
  ev : evs = A ++ B
  pend : (stOf s0 A).pend = []
  inA : ∀ e ∈ A, lst e.d.i = true
  inB : ∀ e ∈ B, e.isE = true → lst e.d.i = false
  le : ρ.le ρ'
  hr : HR P w0 ρ' (frm X s0.nm hi (bOf (selB lst B)) (bOf A)) (stOf s0 A).k w
  tm : VRs ρ' (tOf s0.t (A ++ selB lst B)) a.tmps.toList
  dr : DR ρ' sd a.defers
  cl : ∀ j o, ops[j]? = some o → lst j = true → ∀ x ∈ edgesOf o, lst x = true

theorem edges_getD {i : Nat} {o : Oper} (h : ops[i]? = some o) : (ops.toList.map edgesOf).getD i [] = edgesOf o := by
  have h' : ops.toList[i]? = some o := by simpa using h
  simp [List.getD, List.getElem?_map, h']

/-- What a place's bits name is done once what it waits for is done. -/
theorem mask_in {as : List AOpr} {evs : List Ev} (hs : Sch ops as evs) (hlen : as.length = ops.size) {lst : Nat → Bool} (hcl : ∀ (j : Nat) (o : Oper), ops[j]? = some o → lst j = true → ∀ x ∈ edgesOf o, lst x = true) :
    ∀ (n : Nat) (C : List Ev) (e : Ev) (D : List Ev) (o : Oper), C.length = n → evs = C ++ e :: D → ops[e.d.i]? = some o → (∀ x ∈ edgesOf o, lst x = true) → ∀ q, e.d.m.testBit q = true → lst q = true := by
  intro n
  induction n using Nat.strongRecOn with
  | _ n ih =>
    intro C e D o hn hev ho he q hq
    obtain ⟨k1, k2, k3, k4, k5, k6⟩ := hs.at_ C e D hev
    have ho' : ops.toList[e.d.i]? = some o := by simpa using ho
    rw [k2] at hq
    obtain ⟨x, hx, h⟩ := mask_bit ho' hq
    have hlx := he x hx
    rcases h with rfl | h
    · exact hlx
    · obtain ⟨q', hq', rfl⟩ := k5 x (by rw [edges_getD ho]; exact hx)
      obtain ⟨C1, C2, rfl⟩ := List.append_of_mem hq'
      have hev' : evs = C1 ++ q' :: (C2 ++ e :: D) := by rw [hev]; simp
      obtain ⟨_, j2, j3, _, _, _⟩ := hs.at_ _ _ _ hev'
      have hox : ops[q'.d.i]? = some ops[q'.d.i] := Array.getElem?_eq_getElem (by omega)
      exact ih C1.length (by rw [← hn]; simp) C1 q' _ _ rfl hev' hox (hcl _ _ hox hlx) q (by rw [j2]; exact h)

theorem selB_congr {lst lst' : Nat → Bool} {B : List Ev} (h : ∀ e ∈ B, lst e.d.i = lst' e.d.i) : selB lst B = selB lst' B := List.filter_congr h

theorem bOf_sub {A B : List Ev} (h : A.Sublist B) : ((bOf A).map (·.1)).Sublist ((bOf B).map (·.1)) := (h.filterMap _).map _

theorem mem_selB {lst : Nat → Bool} {B : List Ev} {q : Ev} : q ∈ selB lst B ↔ q ∈ B ∧ lst q.d.i = true := List.mem_filter

/-- One more operation. -/
theorem inv_step (S : Snd P w0 rec) (hfns : Fns P fns) (hF : Fc F) (n : Nat) {as : List AOpr} (has : cOpers P ops ops.toList = some as) {evs : List Ev} (hs : Sch ops as evs) {s0 : Sd} {hi : Nat} {sd : List Nat} (hg : Good fns rec evs s0)
    (hhi : (stOf s0 evs).nm ≤ hi) (hX1 : ∀ n, s0.nm ≤ n → X.x n = none) (hX2 : ∀ n, X.z n = true → n < s0.nm) {lst : Nat → Bool} {a : Act} {w : World} {A B : List Ev} {ρ' : Ren}
    (I : Inv P w0 ops X ρ s0 hi sd evs lst a w A B ρ') {i : Nat} {o : Oper} (ho : ops[i]? = some o) (hni : lst i = false) (hed : ∀ x ∈ edgesOf o, lst x = true) {Q : Exit → Act → World → Prop} :
    wpOpIn F n P ops Q i (fun a' w' => ∃ A' B' ρ'', Inv P w0 ops X ρ s0 hi sd evs (fun j => j == i || lst j) a' w' A' B' ρ'') a w := by
  obtain ⟨hlen, hco⟩ := cOpers_at ops.toList as has
  have hlen' : as.length = ops.size := by simpa using hlen
  have hisz : i < ops.size := (Array.getElem?_eq_some_iff.1 ho).1
  obtain ⟨e, hee, hei⟩ := hs.all_ i (by omega)
  have heB : e ∈ B := by
    rw [I.ev] at hee
    rcases List.mem_append.1 hee with h | h
    · have := I.inA e h; rw [hei, hni] at this; cases this
    · exact h
  obtain ⟨B1, B2, hBs⟩ := List.append_of_mem heB
  have hevC : evs = (A ++ B1) ++ e :: B2 := by rw [I.ev, hBs]; simp
  obtain ⟨k1, k2, k3, k4, k5, k6⟩ := hs.at_ _ _ _ hevC
  have hmask : ∀ q, e.d.m.testBit q = true → lst q = true := mask_in hs hlen' I.cl _ _ e _ o rfl hevC (by rw [hei]; exact ho) hed
  have hafter : ∀ q ∈ B2, ∃ C D, evs = C ++ q :: D ∧ e ∈ C := by
    intro q hq
    obtain ⟨D1, D2, hD⟩ := List.append_of_mem hq
    exact ⟨(A ++ B1) ++ e :: D1, D2, by rw [hevC, hD]; simp, by simp⟩
  have hne2 : ∀ q ∈ B2, q.d.i ≠ i := by
    intro q hq he
    obtain ⟨C, D, h1, h2⟩ := hafter q hq
    exact (hs.at_ _ _ _ h1).2.2.2.1 e h2 (by rw [hei, he])
  have hne1 : ∀ q ∈ A ++ B1, q.d.i ≠ i := fun q hq => by rw [← hei]; exact k4 q hq
  -- those behind that are done are apart from e
  have hap2 : ∀ q ∈ B2, lst q.d.i = true → e.d.o.apart q.d.o = true := by
    intro q hq hl
    obtain ⟨C, D, h1, h2⟩ := hafter q hq
    obtain ⟨_, _, j3, _, _, j6⟩ := hs.at_ _ _ _ h1
    rcases j6 e h2 with h | ⟨_, h⟩
    · have hoq : ops[q.d.i]? = some ops[q.d.i] := Array.getElem?_eq_getElem (by omega)
      have := mask_in hs hlen' I.cl _ _ q _ _ rfl h1 hoq (I.cl _ _ hoq hl) _ h
      rw [hei, hni] at this; cases this
    · exact h
  -- those ahead that are not done are apart from e
  have hap1 : ∀ q ∈ B1, lst q.d.i = false → q.d.o.apart e.d.o = true := by
    intro q hq hl
    rcases k6 q (by simp [hq]) with h | ⟨_, h⟩
    · have := hmask _ h; rw [hl] at this; cases this
    · exact h
  have hselB : selB lst B = selB lst B1 ++ selB lst B2 := by
    rw [hBs, selB_append]
    congr 1
    show List.filter _ (e :: B2) = _
    rw [List.filter_cons_of_neg (by simp [hei, hni])]
    rfl
  have hl1 : ∀ q ∈ B1, lst q.d.i = (q.d.i == i || lst q.d.i) := fun q hq => by
    have : (q.d.i == i) = false := by simpa using hne1 q (by simp [hq])
    simp [this]
  have hl2 : ∀ q ∈ B2, lst q.d.i = (q.d.i == i || lst q.d.i) := fun q hq => by
    have : (q.d.i == i) = false := by simpa using hne2 q hq
    simp [this]
  have hselB' : selB (fun j => j == i || lst j) B = selB lst B1 ++ e :: selB lst B2 := by
    rw [hBs, selB_append, ← selB_congr (lst := lst) (lst' := fun j => j == i || lst j) hl1]
    congr 1
    show List.filter _ (e :: B2) = _
    rw [List.filter_cons_of_pos (by simp [hei])]
    congr 1
    exact (selB_congr (lst := lst) (lst' := fun j => j == i || lst j) hl2).symm
  have hst := good_split (A ++ B1) (e :: B2) s0 (by rw [← hevC]; exact hg)
  obtain ⟨hgA, hok, hgB2⟩ := hst
  -- the slots
  have htC : (stOf s0 (A ++ B1)).t = tOf (tOf s0.t A) B1 := by rw [st_t, tOf_append]
  have hagr : Agr (stOf s0 (A ++ B1)).t (tOf s0.t (A ++ selB lst B)) e.d.o.uses := by
    intro u hu
    rw [htC, hselB, tOf_append, tOf_append]
    have h2 : (tOf (tOf (tOf s0.t A) (selB lst B1)) (selB lst B2)).getD u undefA = (tOf (tOf s0.t A) (selB lst B1)).getD u undefA := by
      refine tOf_other _ _ fun q hq hd => ?_
      obtain ⟨hq1, hq2⟩ := mem_selB.1 hq
      exact (apart_spec (hap2 q hq1 hq2)).2 u hd hu
    rw [h2]
    refine (tOf_sel B1 _ _ rfl rfl fun q hq hpq hd => ?_).symm
    exact (apart_spec (hap1 q hq hpq)).1 u hd hu
  have hlate : setO (tOf s0.t (A ++ selB lst B)) e.d.o.dst e.v = tOf s0.t (A ++ (selB lst B1 ++ e :: selB lst B2)) := by
    rw [hselB, tOf_append, tOf_append, tOf_append, tOf_append]
    refine tOf_late e _ _ fun q hq d hd hqd => ?_
    obtain ⟨hq1, hq2⟩ := mem_selB.1 hq
    exact (apart_spec (hap2 q hq1 hq2)).1 d hd (dst_uses hqd)
  have hcoe : cOper P ops o = some e.d.o := by
    rw [k1, hei]
    exact hco i o (by simpa using ho)
  obtain ⟨c1, c2, c3⟩ := cOper_spec hcoe
  have hwant : Region.wanted o (yielded ops a.tmps) = e.b := want_sound hcoe I.tm (by rw [← want_agr hagr]; exact hok.1)
  have hcl' : ∀ (j : Nat) (o' : Oper), ops[j]? = some o' → (j == i || lst j) = true → ∀ x ∈ edgesOf o', (x == i || lst x) = true := by
    intro j o' hj hl x hx
    simp only [Bool.or_eq_true, beq_iff_eq] at hl ⊢
    rcases hl with rfl | hl
    · rw [ho] at hj; cases hj; exact .inr (hed x hx)
    · exact .inr (I.cl j o' hj hl x hx)
  have hinA' : ∀ q ∈ A, (q.d.i == i || lst q.d.i) = true := fun q hq => by simp [I.inA q hq]
  have hnm : ∀ p ∈ bOf evs, s0.nm ≤ p.1 ∧ p.1 < hi := fun p hp => by
    have := (good_names evs s0 hg).1 p hp; omega
  unfold wpOpIn
  rw [ho]
  simp only
  cases hE : e.isE with
  | false =>
    have hinB' : ∀ q ∈ B, q.isE = true → (q.d.i == i || lst q.d.i) = false := by
      intro q hq hqe
      have h1 := I.inB q hq hqe
      have h2 : q.d.i ≠ i := by
        intro he
        rw [hBs] at hq
        rcases List.mem_append.1 hq with hq | hq
        · exact hne1 q (by simp [hq]) he
        · rcases List.mem_cons.1 hq with rfl | hq
          · rw [hE] at hqe; cases hqe
          · exact hne2 q hq he
      simp [h1, h2]
    -- no block is made
    have plain : e.blk = none → ∀ v', VR ρ' e.v v' → ∃ A' B' ρ'', Inv P w0 ops X ρ s0 hi sd evs (fun j => j == i || lst j) (a.put o.dst v') w A' B' ρ'' := by
      intro hb v' hv
      refine ⟨A, B, ρ', I.ev, I.pend, hinA', hinB', I.le, ?_, ?_, by rw [put_defers]; exact I.dr, hcl'⟩
      · have : bOf (selB (fun j => j == i || lst j) B) = bOf (selB lst B) := by
          rw [hselB', hselB, bOf_append, bOf_append]
          congr 1
          simp [bOf, hb]
        rw [this]; exact I.hr
      · rw [hselB', ← hlate, c3]
        exact put_rel I.tm _ hv
    rw [hwant]
    cases hb : e.b with
    | false =>
      simp only [Bool.false_eq_true, if_false]
      obtain ⟨g1, g2, _⟩ := hok.2.1 hb
      exact ⟨fun f _ => hF.1 f, plain g2 undef (by rw [g1]; exact VR.undef _)⟩
    | true =>
      simp only [if_true]
      have hm := hok.2.2 hb
      cases hcl : e.d.o.op.cls with
      | eff => simp [Ev.isE, hcl] at hE
      | pure =>
        simp only [hcl] at hm
        obtain ⟨g1, g2⟩ := hm
        refine qv_step I.hr I.tm c1 (.inl hcl) (v := e.v) ?_ hF n (fun v' hv => plain g2 v' hv)
        rw [← qv_agr hagr.op, qv_pure (h' := Heap.empty) hcl]; exact g1
      | read =>
        simp only [hcl] at hm
        obtain ⟨g1, g2, g3⟩ := hm
        refine qv_step I.hr I.tm c1 (.inr hcl) (v := e.v) ?_ hF n (fun v' hv => plain g3 v' hv)
        rw [← qv_agr hagr.op]
        have hfold : stOf s0 (A ++ B1) = stOf (stOf s0 A) B1 := by simp [stOf]
        by_cases hq : ∃ q ∈ B1, q.isE = true
        · obtain ⟨q, hq1, hq2, hq3⟩ := ks_first B1 (stOf s0 A) hq
          rw [← hfold] at hq3
          have hsure := g2
          unfold Sd.sure at hsure
          have := List.all_eq_true.1 hsure _ hq3
          simp only [Bool.or_eq_true] at this
          rcases this with h | h
          · have h1 := hmask _ h
            have h2 := I.inB q (by rw [hBs]; simp [hq1]) hq2
            rw [h1] at h2; cases h2
          · exact beqO_eq h
        · have hq' : ∀ q ∈ B1, q.isE = false := fun q hq1 => by
            cases hh : q.isE with
            | false => rfl
            | true => exact absurd ⟨q, hq1, hh⟩ hq
          rw [hfold, (st_quiet B1 _ hq').1, ← hfold] at g1
          exact g1
      | alloc =>
        simp only [hcl] at hm
        obtain ⟨b, f, g1, g2, g3⟩ := hm
        refine al_step I.hr I.tm c1 hcl (b := b) (f := f) (by rw [← al_agr hagr.op]; exact g1) hF n ?_
        intro v' w' obj sz e1 e2 e3 e4 e5
        have hn1 := (good_names (A ++ B1) s0 hgA).1
        have hn2 := (good_names B2 _ hgB2).1
        have hisA : e.isA = true := by simp [Ev.isA, hcl]
        have hnx : ((stOf s0 (A ++ B1)).nx e).nm = (stOf s0 (A ++ B1)).nm + 1 := by simp [Sd.nx, hisA]
        have hmem : ((stOf s0 (A ++ B1)).nm, b) ∈ bOf evs := by
          rw [hevC, bOf_append]
          refine List.mem_append_right _ ?_
          simp [bOf, g3]
        have hrange := hnm _ hmem
        have hsub : ∀ (C : List Ev) (y : Nat), y ∈ (bOf (selB lst C)).map (·.1) → y ∈ (bOf C).map (·.1) := fun C y hy => (bOf_sub (List.filter_sublist (l := C))).subset hy
        have hr' := I.hr
        rw [hselB, bOf_append] at hr'
        have hA : (stOf s0 (A ++ B1)).nm ∉ (bOf A).map (·.1) := by
          intro hm
          obtain ⟨p, hp, he⟩ := List.mem_map.1 hm
          have := (hn1 p (by rw [bOf_append]; exact List.mem_append_left _ hp)).2
          omega
        have hBb : (stOf s0 (A ++ B1)).nm ∉ (bOf (selB lst B1) ++ bOf (selB lst B2)).map (·.1) := by
          intro hm
          rw [List.map_append, List.mem_append] at hm
          rcases hm with hm | hm
          · obtain ⟨p, hp, he⟩ := List.mem_map.1 (hsub B1 _ hm)
            have := (hn1 p (by rw [bOf_append]; exact List.mem_append_right _ hp)).2
            omega
          · obtain ⟨p, hp, he⟩ := List.mem_map.1 (hsub B2 _ hm)
            have := (hn2 p hp).1
            rw [hnx] at this
            omega
        have hdead : ρ' (stOf s0 (A ++ B1)).nm = none := by
          refine (hr'.dead _ ?_).1
          simp only [frm, Bool.or_eq_true, Bool.and_eq_true, decide_eq_true_eq, Bool.not_eq_true', List.contains_eq_mem, decide_eq_false_iff_not]
          exact .inr ⟨⟨hrange, hA⟩, hBb⟩
        obtain ⟨b1, b2⟩ := e5 _ hdead
        obtain ⟨_, Hn⟩ := frm_take hr' hrange hA hBb hX2 e1 e2 e3 e4 b1
        have hle := Ren.le_put (p := (w.heap.size, 0, sz)) hdead
        refine ⟨A, B, _, I.ev, I.pend, hinA', hinB', Ren.le_trans I.le hle, ?_, ?_, by rw [put_defers]; exact I.dr.mono hle, hcl'⟩
        · have : bOf (selB (fun j => j == i || lst j) B) = bOf (selB lst B1) ++ ((stOf s0 (A ++ B1)).nm, b) :: bOf (selB lst B2) := by
            rw [hselB', bOf_append]
            congr 1
            simp [bOf, g3]
          rw [this]; exact Hn
        · rw [hselB', ← hlate, c3]
          exact put_rel (I.tm.mono hle) _ (by rw [g2]; exact b2)
  | true =>
    -- everything ahead is done
    have hall : ∀ q ∈ A ++ B1, lst q.d.i = true := by
      intro q hq
      rcases k6 q hq with h | ⟨h, _⟩
      · exact hmask _ h
      · rw [hE] at h; cases h
    have hq1 : ∀ q ∈ B1, q.isE = false := by
      intro q hq
      cases hh : q.isE with
      | false => rfl
      | true =>
        have h1 := I.inB q (by rw [hBs]; simp [hq]) hh
        rw [hall q (by simp [hq])] at h1; cases h1
    have hsel1 : selB lst B1 = B1 := List.filter_eq_self.2 fun q hq => hall q (by simp [hq])
    have hfold : stOf s0 (A ++ B1) = stOf (stOf s0 A) B1 := by simp [stOf]
    obtain ⟨q1, q2⟩ := st_quiet B1 (stOf s0 A) hq1
    rw [I.pend, List.nil_append] at q2
    rw [← hfold] at q1 q2
    have hblk : e.blk = none := by
      cases hb : e.blk with
      | none => rfl
      | some p => have := (ok_blk hok hb).2.2.1; rw [hE] at this; cases this
    -- the blocks go into the heap
    have hr' := I.hr
    rw [hselB, bOf_append, hsel1] at hr'
    have hgB := (good_split A B s0 (by rw [← I.ev]; exact hg)).2
    have hnd : ((bOf B1 ++ bOf (selB lst B2)).map (·.1)).Nodup := by
      rw [← bOf_append]
      refine List.Sublist.nodup (bOf_sub ?_) (good_names B _ hgB).2
      rw [hBs]
      exact List.Sublist.append (List.Sublist.refl _) ((List.filter_sublist).cons _)
    have Hm : HR P w0 ρ' (frm X s0.nm hi (bOf (selB lst B2)) (bOf A ++ bOf B1)) ((stOf s0 (A ++ B1)).k.putL (stOf s0 (A ++ B1)).pend) w := by
      rw [q1, q2]
      exact frm_merge hr' hnd (fun p hp => (hnm p (by rw [hevC, bOf_append, bOf_append]; simp [hp])).1) hX1
    have hsel2 : selB (fun j => j == i || lst j) B2 = selB lst B2 := (selB_congr (lst := lst) (lst' := fun j => j == i || lst j) hl2).symm
    -- what is left behind
    have fin : ∀ (v' : Value) (w' : World) (ρ'' : Ren), ρ'.le ρ'' → HR P w0 ρ'' (frm X s0.nm hi (bOf (selB lst B2)) (bOf A ++ bOf B1)) e.h' w' → VR ρ'' e.v v' →
        ∃ A' B' ρ'', Inv P w0 ops X ρ s0 hi sd evs (fun j => j == i || lst j) (a.put o.dst v') w' A' B' ρ'' := by
      intro v' w' ρ'' hle Hn hv
      refine ⟨A ++ B1 ++ [e], B2, ρ'', by rw [hevC]; simp, ?_, ?_, ?_, Ren.le_trans I.le hle, ?_, ?_, by rw [put_defers]; exact I.dr.mono hle, hcl'⟩
      · have : stOf s0 (A ++ B1 ++ [e]) = (stOf s0 (A ++ B1)).nx e := by simp [stOf]
        rw [this]; simp [Sd.nx, hE]
      · intro q hq
        rcases List.mem_append.1 hq with hq | hq
        · simp [hall q hq]
        · simp only [List.mem_singleton] at hq; subst hq; simp [hei]
      · intro q hq hqe
        have h1 := I.inB q (by rw [hBs]; simp [hq]) hqe
        have h2 := hne2 q hq
        simp [h1, h2]
      · have h1 : stOf s0 (A ++ B1 ++ [e]) = (stOf s0 (A ++ B1)).nx e := by simp [stOf]
        have h2 : ((stOf s0 (A ++ B1)).nx e).k = e.h' := by simp [Sd.nx, hE]
        have h3 : bOf (A ++ B1 ++ [e]) = bOf A ++ bOf B1 := by rw [bOf_append, bOf_append]; simp [bOf, hblk]
        rw [h1, h2, h3, hsel2]; exact Hn
      · have h1 : A ++ B1 ++ [e] ++ selB (fun j => j == i || lst j) B2 = A ++ (selB lst B1 ++ e :: selB lst B2) := by rw [hsel2, hsel1]; simp
        rw [h1, ← hlate, c3]
        exact put_rel (I.tm.mono hle) _ hv
    rw [hwant]
    cases hb : e.b with
    | false =>
      simp only [Bool.false_eq_true, if_false]
      obtain ⟨g1, g2, g3⟩ := hok.2.1 hb
      refine ⟨fun f _ => hF.1 f, fin undef w ρ' (Ren.le_refl _) ?_ (by rw [g1]; exact VR.undef _)⟩
      rw [g3 hE]; exact Hm
    | true =>
      simp only [if_true]
      have hm := hok.2.2 hb
      have hcl : e.d.o.op.cls = .eff := by
        have : (e.d.o.op.cls == Cls.eff) = true := hE
        simpa using this
      simp only [hcl] at hm
      obtain ⟨_, hm⟩ := hm
      refine eff_step S hfns Hm I.tm c1 hcl (K := fun v h => v = e.v ∧ h = e.h') (aeff_agr hagr.op (hm _ ⟨rfl, rfl⟩)) hF n ?_
      rintro v v' h' ρ'' w' ⟨rfl, rfl⟩ hle Hn hv
      exact fin v' w' ρ'' hle Hn hv

/-- Every order in which the operations may come up. -/
theorem any_sound (S : Snd P w0 rec) (hfns : Fns P fns) (hF : Fc F) (n : Nat) {as : List AOpr} (has : cOpers P ops ops.toList = some as) {evs : List Ev} (hs : Sch ops as evs) {s0 : Sd} {hi : Nat} {sd : List Nat} (hg : Good fns rec evs s0)
    (hhi : (stOf s0 evs).nm ≤ hi) (hX1 : ∀ n, s0.nm ≤ n → X.x n = none) (hX2 : ∀ n, X.z n = true → n < s0.nm) {Q : Exit → Act → World → Prop}
    (hQ : ∀ lst a w A B ρ', Inv P w0 ops X ρ s0 hi sd evs lst a w A B ρ' → (∀ e ∈ evs, lst e.d.i = true) → Q .normal a w) :
    ∀ (fuel : Nat) (listed : Array Bool) (a : Act) (w : World), listed.size = ops.size → (∃ A B ρ', Inv P w0 ops X ρ s0 hi sd evs (fun j => listed.getD j false) a w A B ρ') →
      (evs.filter fun e => !listed.getD e.d.i false).length ≤ fuel → wpAnyIn F n P .any ops Q fuel listed a w := by
  obtain ⟨hlen, _⟩ := cOpers_at ops.toList as has
  have hlen' : as.length = ops.size := by simpa using hlen
  -- nothing ready: all is done
  have done : ∀ (listed : Array Bool), listed.size = ops.size → Region.ready .any ops listed = [] → ∀ e ∈ evs, listed.getD e.d.i false = true := by
    intro listed hsz hr
    have key : ∀ (N : Nat) (C : List Ev) (e : Ev) (D : List Ev), C.length = N → evs = C ++ e :: D → listed.getD e.d.i false = true := by
      intro N
      induction N using Nat.strongRecOn with
      | _ N ih =>
        intro C e D hN hev
        obtain ⟨_, _, k3, _, k5, _⟩ := hs.at_ _ _ _ hev
        have hlt : e.d.i < ops.size := by omega
        cases hl : listed.getD e.d.i false with
        | true => rfl
        | false =>
          exfalso
          have hmem : e.d.i ∈ Region.ready .any ops listed := by
            rw [mem_ready]
            have hlt' : e.d.i < listed.size := by omega
            refine ⟨by simp [Array.getD, hlt'] at hl ⊢; exact hl, ops[e.d.i], Array.getElem?_eq_getElem hlt, ?_⟩
            intro x hx hb
            have hxe : x.on ∈ edgesOf ops[e.d.i] := by
              unfold edgesOf
              exact List.mem_map.2 ⟨x, List.mem_filter.2 ⟨by simpa using hx, hb⟩, rfl⟩
            obtain ⟨q, hq, hqx⟩ := k5 x.on (by rw [edges_getD (Array.getElem?_eq_getElem hlt)]; exact hxe)
            obtain ⟨C1, C2, rfl⟩ := List.append_of_mem hq
            rw [← hqx]
            exact ih C1.length (by rw [← hN]; simp) C1 q (C2 ++ e :: D) rfl (by rw [hev]; simp)
          rw [hr] at hmem; simp at hmem
    intro e he
    obtain ⟨C, D, hev⟩ := List.append_of_mem he
    exact key _ C e D rfl hev
  intro fuel
  induction fuel with
  | zero =>
    intro listed a w hsz hI hc
    have hall : ∀ e ∈ evs, listed.getD e.d.i false = true := by
      intro e he
      have h0 : (evs.filter fun e => !listed.getD e.d.i false) = [] := List.eq_nil_of_length_eq_zero (by omega)
      rw [List.filter_eq_nil_iff] at h0
      have := h0 e he
      simpa using this
    obtain ⟨A, B, ρ', I⟩ := hI
    refine ⟨?_, hQ _ a w A B ρ' I hall⟩
    cases hr : Region.ready .any ops listed with
    | nil => rfl
    | cons j js =>
      exfalso
      have hj : j ∈ Region.ready .any ops listed := by rw [hr]; simp
      rw [mem_ready] at hj
      obtain ⟨h1, o, ho, _⟩ := hj
      have hlt : j < ops.size := (Array.getElem?_eq_some_iff.1 ho).1
      obtain ⟨e, he, hej⟩ := hs.all_ j (by omega)
      have := hall e he
      rw [hej] at this
      have hlt' : j < listed.size := by omega
      simp [Array.getD, hlt'] at h1 this
      rw [h1] at this; cases this
  | succ fuel ih =>
    intro listed a w hsz hI hc
    obtain ⟨A, B, ρ', I⟩ := hI
    refine ⟨fun hr => hQ _ a w A B ρ' I (done listed hsz hr), fun i hi' => ?_⟩
    rw [mem_ready] at hi'
    obtain ⟨h1, o, ho, hed⟩ := hi'
    have hlt : i < ops.size := (Array.getElem?_eq_some_iff.1 ho).1
    have hlt' : i < listed.size := by omega
    have hni : listed.getD i false = false := by simp [Array.getD, hlt'] at h1 ⊢; exact h1
    have hedge : ∀ x ∈ edgesOf o, listed.getD x false = true := by
      intro x hx
      unfold edgesOf at hx
      obtain ⟨y, hy, rfl⟩ := List.mem_map.1 hx
      obtain ⟨hy1, hy2⟩ := List.mem_filter.1 hy
      exact hed y (by simpa using hy1) hy2
    have hnew : (fun j => j == i || listed.getD j false) = fun j => (listed.setIfInBounds i true).getD j false := by
      funext j
      simp only [Array.getD_eq_getD_getElem?, Array.getElem?_setIfInBounds]
      by_cases hj : i = j
      · subst hj; simp [hlt']
      · have : (j == i) = false := by simp [Ne.symm hj]
        simp [hj, this]
    refine wpOpIn_mono (fun a' w' hI' => ih (listed.setIfInBounds i true) a' w' (by simpa using hsz) ?_ ?_) (inv_step S hfns hF n has hs hg hhi hX1 hX2 I ho hni hedge)
    · rw [← hnew]; exact hI'
    · obtain ⟨e, he, hei⟩ := hs.all_ i (by omega)
      have hlt2 : (evs.filter fun e => !(listed.setIfInBounds i true).getD e.d.i false).length < (evs.filter fun e => !listed.getD e.d.i false).length := by
        have e1 : (evs.filter fun e => !(listed.setIfInBounds i true).getD e.d.i false) = (evs.filter fun e => !listed.getD e.d.i false).filter fun e => !(e.d.i == i) := by
          rw [List.filter_filter]
          refine List.filter_congr fun q _ => ?_
          have := congrFun hnew q.d.i
          rw [← this]
          cases (q.d.i == i) <;> simp
        rw [e1]
        refine List.length_filter_lt_length_iff_exists.2 ⟨e, ?_, by simp [hei]⟩
        exact List.mem_filter.2 ⟨he, by rw [hei, hni]; rfl⟩
      omega

theorem dsnd (hm : P.follows .mixedOrders = true) (S : Snd P w0 rec) (hfns : Fns P fns) : DSnd P w0 fns rec := by
  intro ops as m ds has hcd s K hq F hF ρ X a w H ht hd n id
  obtain ⟨evs, he, hg, hK⟩ := runD_trace ds _ K hq
  obtain ⟨hs, hmm, hevl⟩ := sch_of hcd he
  have hnm : (stOf { nm := s.h.next, t := s.t, k := s.h.resv m, ks := [], pend := [] } evs).nm = s.h.next + m := by rw [st_nm, hmm]
  have hX1 : ∀ n, s.h.next ≤ n → X.x n = none := fun n hn => (H.fresh n hn).2
  have hX2 : ∀ n, X.z n = true → n < s.h.next := fun n hn => (H.dead n hn).2
  have H0 : HR P w0 ρ (frm X s.h.next (s.h.next + m) [] []) (s.h.resv m) { w with drawn := w.drawn + 1 } := by
    refine (H.drew _).reframe (by rw [Heap.resv_next]; omega) ?_ ?_ ?_
    · intro j b hl
      rcases hl with hl | hl
      · rw [Heap.get_resv] at hl; exact .inl hl
      · exact .inr hl
    · intro j b hg
      rw [Heap.get_resv] at hg
      exact H.disj j b hg
    · intro j hz
      rw [Heap.resv_next]
      simp only [frm, Bool.or_eq_true, Bool.and_eq_true, decide_eq_true_eq] at hz
      rcases hz with hz | hz
      · have := H.dead j hz; exact ⟨this.1, by omega⟩
      · exact ⟨(H.fresh j hz.1.1.1).1, hz.1.1.2⟩
  refine wpIn_region_any hm ?_
  obtain ⟨hlen, _⟩ := cOpers_at ops.toList as has
  have hlen' : as.length = ops.size := by simpa using hlen
  refine any_sound (ρ := ρ) (X := X) (hi := s.h.next + m) (sd := s.d) S hfns hF n has hs hg (by rw [hnm]; exact Nat.le_refl _) hX1 hX2 ?_ ops.size (Array.replicate ops.size false) a _ (by simp) ?_ ?_
  · intro lst a' w' A B ρ' I hall
    refine ⟨rfl, _, _, ρ', hK, I.le, ?_, ?_, I.dr⟩
    · have hBq : ∀ q ∈ B, q.isE = false := by
        intro q hq
        cases hh : q.isE with
        | false => rfl
        | true =>
          have h1 := I.inB q hq hh
          rw [hall q (by rw [I.ev]; simp [hq])] at h1; cases h1
      have hsel : selB lst B = B := List.filter_eq_self.2 fun q hq => hall q (by rw [I.ev]; simp [hq])
      obtain ⟨q1, q2⟩ := st_quiet B (stOf _ A) hBq
      rw [I.pend, List.nil_append] at q2
      have hfold : stOf { nm := s.h.next, t := s.t, k := s.h.resv m, ks := [], pend := [] } evs = stOf (stOf { nm := s.h.next, t := s.t, k := s.h.resv m, ks := [], pend := [] } A) B := by rw [I.ev]; simp [stOf]
      rw [hfold, q1, q2]
      have hr := I.hr
      rw [hsel] at hr
      have hgB := (good_split A B _ (by rw [← I.ev]; exact hg)).2
      have Hm := frm_merge (b1 := bOf B) (b2 := []) (by rw [List.append_nil]; exact hr) (by rw [List.append_nil]; exact (good_names B _ hgB).2)
        (fun p hp => ((good_names evs _ hg).1 p (by rw [I.ev, bOf_append]; simp [hp])).1) hX1
      refine Hm.reframe (Nat.le_refl _) ?_ ?_ ?_
      · intro j b hl
        rcases hl with hl | hl
        · exact .inl hl
        · exact .inr hl
      · intro j b hgg
        exact Hm.disj j b hgg
      · intro j hz
        exact Hm.dead j (by simp only [frm, hz, Bool.true_or])
    · have hsel : selB lst B = B := List.filter_eq_self.2 fun q hq => hall q (by rw [I.ev]; simp [hq])
      rw [st_t]
      have := I.tm
      rw [hsel, ← I.ev] at this
      exact this
  · have hget : ∀ j, (Array.replicate ops.size false).getD j false = false := fun j => by simp [Array.getD]
    refine ⟨[], evs, ρ, rfl, rfl, by simp, fun e _ _ => hget _, Ren.le_refl _, ?_, ?_, hd, ?_⟩
    · have : selB (fun j => (Array.replicate ops.size false).getD j false) evs = [] := List.filter_eq_nil_iff.2 fun e _ => by simp [hget]
      rw [this]; exact H0
    · have : selB (fun j => (Array.replicate ops.size false).getD j false) evs = [] := List.filter_eq_nil_iff.2 fun e _ => by simp [hget]
      rw [this]; exact ht
    · intro j o _ hl
      simp only [hget] at hl; cases hl
  · have := List.length_filter_le (fun e => !(Array.replicate ops.size false).getD e.d.i false) evs
    omega

end
end Go.Am

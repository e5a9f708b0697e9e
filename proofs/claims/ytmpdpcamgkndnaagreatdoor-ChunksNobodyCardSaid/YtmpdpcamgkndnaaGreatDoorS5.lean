/- ChunksNobody: for every input the law returns true, and each argument reads behind the call as it read before. Conditions: the listed package-level variables hold what the program's text lays (tied by the card). -/
import Derived.Test.YtmpdpcamgkndnaaGreatDoorS4
import Derived.Test.YtmpdpcamgkndnaaGreatDoorAmRow
import Derived.Test.YtmpdpcamgkndnaaGreatDoorRows
import Derived.Test.YtmpdpcamgkndnaaGreatDoorTie
import Derived.Test.YtmpdpcamgkndnaaGreatDoorCards
import Derived.SevenTiedAt
import Derived.LaidMore
set_option linter.unusedSimpArgs false
set_option linter.unusedVariables false
set_option linter.constructorNameAsVariable false
set_option maxRecDepth 1000000
namespace Go.Proofs.YtmpdpcamgkndnaaGreatDoor
open Go Go.Am Go.ChangeShapes Go.WideShapes Go.ChangeAt Go.RowKit

def kZ : List Int := [1116352408,1899447441,3049323471,3921009573,961987163,1508970993,2453635748,2870763221,3624381080,310598401,607225278,1426881987,1925078388,2162078206,2614888103,3248222580,3835390401,4022224774,264347078,604807628,770255983,1249150122,1555081692,1996064986,2554220882,2821834349,2952996808,3210313671,3336571891,3584528711,113926993,338241895,666307205,773529912,1294757372,1396182291,1695183700,1986661051,2177026350,2456956037,2730485921,2820302411,3259730800,3345764771,3516065817,3600352804,4094571909,275423344,430227734,506948616,659060556,883997877,958139571,1322822218,1537002063,1747873779,1955562222,2024104815,2227730452,2361852424,2428436474,2756734187,3204031479,3329325298]
def hZ : List Int := [0, 498536548, 997073096, 651767980, 1994146192, 1802195444, 1303535960, 1342533948, 3988292384, 4027552580, 3604390888, 3412177804, 2607071920, 2262029012, 2685067896, 3183342108]
def laid2 : List (String × DataW Unit) := [("hoard/crc.half", Rows.laid_hoard_crc_half), ("hoard/sha.k", Rows.laid_hoard_sha_k)]
def gl2 : List (Nat × List AV) := [(0, shaK), (2, half)]

theorem own : ownKnob Tryz.prog.godebug = none := by kernel_rfl
theorem laidOut : laidOutB Tryz.prog = true := by kernel_rfl
theorem door_met (os : Os) (args : Array Value) : laidMetH Tryz.prog laid2 ((World.doorLaid Tryz.prog 19 os).forCall (fun _ _ => 0) ⟨#[], args, []⟩).memory :=
  laidMetH_of_parts3 (fuel := 8) (laidMet_of_run' 8 (by kernel_rfl) (by kernel_rfl)) (by kernel_rfl) (by kernel_rfl)

theorem tabs {W : World} (h : laidMetH Tryz.prog laid2 W) : ∀ g ∈ gl2, g.1 < Tryz.prog.globals.size ∧ ∃ c u, W.heap[g.1]? = some (.cells c u (0, 0)) ∧ ∀ ρ, VRs ρ g.2 c.toList := by
  rw [MakeChecks.laidMetH_plain _ _ _ (by kernel_rfl)] at h
  have h1 := laid_tab (P := Tryz.prog) (W := W) (name := "hoard/sha.k") (k := .u32) (zs := kZ) (g := 0) (t := 158) h (List.mem_cons_of_mem _ (List.mem_singleton.2 rfl)) (by kernel_rfl) (by kernel_rfl) (e := 110) (n := 64) (by kernel_rfl) (by kernel_rfl) (by kernel_rfl) (by kernel_rfl) (by simp [kZ])
  have h2 := laid_tab (P := Tryz.prog) (W := W) (name := "hoard/crc.half") (k := .u32) (zs := hZ) (g := 2) (t := 263) h (List.mem_cons_self) (by kernel_rfl) (by kernel_rfl) (e := 110) (n := 16) (by kernel_rfl) (by kernel_rfl) (by kernel_rfl) (by kernel_rfl) (by simp [hZ])
  obtain ⟨u1, e1⟩ := h1
  obtain ⟨u2, e2⟩ := h2
  intro g hg
  simp only [gl2, List.mem_cons, List.not_mem_nil, or_false] at hg
  rw [globals_size]
  rcases hg with rfl | rfl
  · exact ⟨by decide, _, u1, e1, fun ρ => VRs_ints ρ .u32 kZ⟩
  · exact ⟨by decide, _, u2, e2, fun ρ => VRs_ints ρ .u32 hZ⟩

theorem ids_rel (ρ : Ren) (x : Nat → Int) (cs : List Value) (h : cs = (List.range 32).map fun i => Value.int .u8 (x i)) : VRs ρ (ids x) cs := by
  subst h
  unfold ids
  have := VRs_ints ρ .u8 ((List.range 32).map x)
  rw [List.map_map, List.map_map] at this
  exact this

/-- Thirty-two cells that read as an array of bytes. -/
theorem bytes_of {H : Type} {enc : TypeId × Value → H} {W : World} {base fuel : Nat} {sp : Nat → Bool} {held : Bool} {cs : List Value} {x : DataW H × List MemPlace} (h : DataW.trod enc Tryz.prog W base sp held fuel 24 cs = some x) :
    ∃ f : Nat → Int, cs = (List.range 32).map fun i => Value.int .u8 (f i) := by
  obtain ⟨xs, m, _, _, hl, hn, hx⟩ := DataW.trod_array (show Tryz.prog.underlying 24 = some (.array 32 5) by kernel_rfl) h
  have c24 : Tryz.prog.cellsOf 24 = 32 := by kernel_rfl
  have c5 : Tryz.prog.cellsOf 5 = 1 := by kernel_rfl
  rw [c24] at hl
  refine ⟨fun i => match cs[i]? with
    | some (.int _ n) => n
    | _ => 0, ?_⟩
  apply List.ext_getElem?
  intro i
  by_cases hi : i < 32
  · have h1 := hx i hi
    rw [c5] at h1
    obtain ⟨y, hy⟩ : ∃ y, xs[i]? = some y := ⟨xs[i]'(by omega), by simp [hn, hi]⟩
    rw [hy] at h1
    obtain ⟨n, e1, _, _⟩ := DataW.trod_int (show Tryz.prog.underlying 5 = some (.int .u8) by kernel_rfl) h1
    have e2 : cs[i]? = some (.int .u8 n) := by
      have := congrArg (·[0]?) e1
      simpa [List.getElem?_take, List.getElem?_drop] using this
    simp [hi, e2]
  · rw [List.getElem?_eq_none (by omega), List.getElem?_eq_none (by simp; omega)]

theorem rets_sl (es : Nat → Nat) (n c : Nat) (x : Nat → Int) : Rets fns 3 [.sl (some (3, 0)) n c none, .agg (ids x)] (h0 es) (.bool true) :=
  Rets.of_pre fn3_is (by kernel_rfl) body3 (runA es _ x) (runB1 es n c x) (runR es _ x)
theorem rets_nil (es : Nat → Nat) (x : Nat → Int) : Rets fns 3 [.sl none 0 0 none, .agg (ids x)] (h0 es) (.bool true) :=
  Rets.of_pre fn3_is (by kernel_rfl) body3 (runA es _ x) (runB2 es x) (runR es _ x)

theorem law_true {H : Type} {enc : TypeId × Value → H} {W : World} {base : Nat} {v0 v1 : Value} {d1 : DataW H} {p1 : List MemPlace} (hL : laidMetH Tryz.prog laid2 W)
    (h0' : Value.okWide Tryz.prog W .any base 22 v0) (h1' : DataW.Trod enc Tryz.prog W 0 (fun _ => true) true 24 v1 d1 p1) (hv1 : Value.okWide Tryz.prog W .any base 24 v1) :
    Calls Tryz.prog 3 #[v0, v1] W fun e W' => e = .returned (.bool true) ∧ Below W.heap.size W W' := by
  have hg := tabs hL
  obtain ⟨cs, rfl, _⟩ := agg_of_ok (show Tryz.prog.underlying 24 = some (.array 32 5) by kernel_rfl) (.inr ⟨_, _, rfl⟩) hv1
  obtain ⟨fuel1, hf1⟩ := h1'
  obtain ⟨x, hx⟩ := bytes_of hf1
  have hx' : cs.toList = (List.range 32).map fun i => Value.int .u8 (x i) := hx
  rcases sl_of_ok (show Tryz.prog.underlying 22 = some (.slice 5) by kernel_rfl) h0' with rfl | ⟨b, o, len, cap, rfl, hle⟩
  · refine Rets.calls_true mixed fns_ok (HR.begun (m := 1) (ex := fun _ => none) (fun _ _ => rfl) hg) (args := [.sl none 0 0 none, .agg (ids x)]) ?_ ?_
    · simp only [VRs, VR, and_true, true_and]
      exact ⟨cs, rfl, ids_rel _ x _ hx'⟩
    · rw [globals_size]
      exact rets_nil _ x
  · refine Rets.calls_true mixed fns_ok (HR.begun (m := 1) (ex := fun k => if k = 3 then some (b, o, 0) else none) (fun k hk => by rw [globals_size] at hk; rw [if_neg (by omega)]) hg) (args := [.sl (some (3, 0)) len cap none, .agg (ids x)]) ?_ ?_
    · simp only [VRs, VR, and_true]
      refine ⟨⟨(b, o, 0), o, cap, ?_, rfl, hle, .inl (by simp), rfl⟩, cs, rfl, ids_rel _ x _ hx'⟩
      rw [globals_size]
      rfl
    · rw [globals_size]
      exact rets_sl _ len cap x

set_option maxRecDepth 100000 in
theorem lifted (os : Os) (started : os.Started) (H : Type) (enc : TypeId × Value → H) :
    ReturnsInHanded {} Tryz.checked os 3 .any (fun w args => (Rows.chunksNobodySpec.pre enc Tryz.prog Tryz.f3 [] false w args ∧ laidMetH Tryz.prog laid2 w) ∧ sizedMet enc Tryz.prog Tryz.f3 (OpenSpec.ofChange Rows.chunksNobodySpec) false w args)
      (Rows.chunksNobodySpec.post enc Tryz.prog Tryz.f3 false true false false) := by
  refine returnsInHanded_of_change_and (C := Tryz.checked) (X := fun w _ => laidMetH Tryz.prog laid2 w) (fun _ _ _ hh h => h.of_heap hh) own started (by kernel_rfl) Tryz.func3
    (ChangeSpec.witness_shaped (enc := enc) (C := Tryz.checked) (os := os) (X := fun w _ => laidMetH Tryz.prog laid2 w) false (World.doorLaid Tryz.prog 19 os) #[.slice none 0 0, .agg (Array.replicate 32 (.int .u8 0))] 8 rfl (World.shaped_of_RefB (by kernel_rfl) (by kernel_rfl)) (by kernel_rfl) (by kernel_rfl) (by kernel_rfl) (door_met os _)) ?_
  intro W base args ds gs before hval0 hW _ _ hL _
  have hval : ∀ (j : Nat) t v, Tryz.f3.params[j]? = some t → args[j]? = some v → Value.okWide Tryz.prog W .any base t v := hval0
  have hW' := hW
  obtain ⟨p, q, hA0, hV, rfl, hfz, hnd⟩ := hW
  have hA : DataW.TrodAll enc Tryz.prog W 0 (fun _ => true) true Tryz.f3.params.toList args.toList ds p := hA0
  rw [Tryz.params3] at hA hval
  obtain ⟨v0, v1, d0, d1, p0, p1, rfl, rfl, rfl, h0, h1⟩ := trodAll_two hA
  obtain ⟨rfl, rfl⟩ := trodVars_none hV
  refine (law_true hL (hval 0 22 v0 rfl rfl) h1 (hval 1 24 v1 rfl rfl)).mono fun e W' ⟨he, hb⟩ => ?_
  subst he
  exact ⟨_, rfl, law_post laidOut rfl (by kernel_rfl) (tb := 4) (by kernel_rfl) (by rw [Tryz.params3]; intro t ht; simp at ht; rcases ht with rfl | rfl <;> exact ⟨by kernel_rfl, of_decide_eq_true (by kernel_rfl)⟩) hW' ⟨rfl, rfl, rfl⟩ hb⟩

theorem row_holds : Rows.ChunksNobodySaid :=
  OpenClaim.holds_of_wide 3 Tryz.f3 rfl rfl rfl rfl rfl rfl rfl ⟨rfl, rfl, rfl, rfl, rfl⟩ rfl rfl rfl rfl rfl (by kernel_rfl) Tryz.func3 (by kernel_rfl)
    (of_decide_eq_true (by kernel_rfl)) (by unfold Func.isWrapper; first | (rw [if_pos (by decide +kernel)]; kernel_rfl) | (rw [if_neg (by decide +kernel)]; exact ⟨rfl, rfl⟩))
    (fun os started H enc _ => lifted os started H enc)

theorem ChunksNobody : Rows.ChunksNobodyCardSaid :=
  Claim7.holds_tied_plain_at .later [] [.data, .data] true (true, "72fa204491fa5dea9c66fb783b8d3b395583dc729d9dfc7aea0b5d5471269487") false
    row_holds (fun _ h => by cases h) (by kernel_rfl) (fun _ h => by cases h) chunksNobody_row_tie rfl ⟨rfl, rfl⟩ (by kernel_rfl) rfl
    (fun f fn hf hfn => by
      obtain rfl : f = 3 := Option.some.inj ((show Tryz.prog.funcNamed "hoard/hoardlaw22.ChunksNobody" = some 3 by kernel_rfl).symm.trans hf) |>.symm
      obtain rfl : fn = Tryz.f3 := (Option.some.inj (Tryz.func3.symm.trans hfn)).symm
      exact ⟨by kernel_rfl, fun j t ht => by
        rw [Tryz.params3] at ht
        have hm : t ∈ [22, 24] := by simpa using Array.mem_of_getElem? ht
        have hall : ([22, 24].all fun u => !Tryz.prog.wantsStandIn u) = true := by kernel_rfl
        exact (show Tryz.prog.wantsStandIn t = false by simpa using List.all_eq_true.1 hall t hm)⟩)
    (by kernel_rfl)
#print axioms ChunksNobody
end Go.Proofs.YtmpdpcamgkndnaaGreatDoor

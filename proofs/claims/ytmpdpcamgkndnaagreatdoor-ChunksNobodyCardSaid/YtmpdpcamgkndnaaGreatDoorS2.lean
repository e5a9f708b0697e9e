/- hoardref01.Cut comes back at every slice. Conditions: none. -/
import Derived.Test.YtmpdpcamgkndnaaGreatDoorAmKrun
import Derived.Test.YtmpdpcamgkndnaaGreatDoorAmSym
import Derived.Test.YtmpdpcamgkndnaaGreatDoorProg
import Derived.KernelRfl
set_option linter.unusedSimpArgs false
set_option linter.constructorNameAsVariable false
set_option linter.unusedVariables false
set_option maxRecDepth 1000000
namespace Go.Proofs.YtmpdpcamgkndnaaGreatDoor
open Go Go.Am
-- hoard/hoardref01.Cut
def c4 : AC := (.seq (.reg [
    ⟨(some 4), .mov (.c (.sl none 0 0 none)), none⟩])
  (.seq (.seq (.reg [
    ⟨(some 5), .mov (.t 0), none⟩,
    ⟨(some 6), .len 1 (.t 5), none⟩,
    ⟨(some 7), .mov (.t 1), none⟩,
    ⟨(some 8), .bin .gtr (.t 6) (.t 7), none⟩])
  (.cond (.t 8)
    (.seq (.reg [
      ⟨(some 9), .mov (.t 0), none⟩,
      ⟨(some 10), .mov (.t 1), none⟩,
      ⟨(some 11), .sliceSl 1 (.t 9) none (some (.t 10)) none, none⟩,
      ⟨(some 4), .mov (.t 11), none⟩])
    .ret)
    .skip))
  (.seq (.reg [
    ⟨(some 12), .mov (.t 0), none⟩,
    ⟨(some 4), .mov (.t 12), none⟩])
  .ret)))
theorem f4 : cFn Tryz.prog 4 = some (AFn.mk 13 [.tmp 4] c4 fun _ _ => none) := by kernel_rfl



theorem cut_any {fns : Nat → Option AFn} (f4 : fns 4 = some (AFn.mk 13 [.tmp 4] c4 fun _ _ => none)) (q : Nat × Nat) (n c : Nat) (hnc : n ≤ c) (h : Heap) : ACall fns 4 [.sl (some q) n c none, .int .i64 50] h fun _ _ => True := by
  refine ACall_enter f4 ?_
  unfold c4
  by_cases hn : (n : Int) > 50
  · have h51 : (50 : Int) ≤ c := by omega
    have h52 : 50 ≤ c := by omega
    simp [AWP_seq, AWP_reg, AWP_cond, AWP_ret, AWP_skip, ops_cons, ops_nil, KSeq_n, KSeq_r, KOps_s, aop_mov, aop_lenL, aop_bin, aop_sliceSl, orF_some, orF_none, KRet_r, AO.ev, undefA, abin, qv, bndO, bnd, resAll, resA, pack, hn, h51, h52]
  · simp [AWP_seq, AWP_reg, AWP_cond, AWP_ret, AWP_skip, ops_cons, ops_nil, KSeq_n, KSeq_r, KOps_s, aop_mov, aop_lenL, aop_bin, aop_sliceSl, orF_some, orF_none, KRet_r, AO.ev, undefA, abin, qv, bndO, bnd, resAll, resA, pack, hn]
theorem cut_nil {fns : Nat → Option AFn} (f4 : fns 4 = some (AFn.mk 13 [.tmp 4] c4 fun _ _ => none)) (h : Heap) : ACall fns 4 [.sl none 0 0 none, .int .i64 50] h fun _ _ => True := by
  refine ACall_enter f4 ?_
  unfold c4
  simp [AWP_seq, AWP_reg, AWP_cond, AWP_ret, AWP_skip, ops_cons, ops_nil, KSeq_n, KSeq_r, KOps_s, aop_mov, aop_lenL, aop_bin, aop_sliceSl, orF_some, orF_none, KRet_r, AO.ev, undefA, abin, qv, bndO, bnd, resAll, resA, pack]
theorem globals_size : Tryz.prog.globals.size = 3 := by kernel_rfl
theorem mixed : Tryz.prog.follows .mixedOrders = true := by kernel_rfl
theorem cut_memo : MemoOk Tryz.prog 4 fun args _ =>
      match args with
      | [.sl _ _ _ none, .int .i64 k] => if k = 50 then some .top else none
      | _ => none := memo_cut mixed (cFn_ok _) (fun q n c h => cut_any f4 q n c h _) (cut_nil f4 _)
end Go.Proofs.YtmpdpcamgkndnaaGreatDoor

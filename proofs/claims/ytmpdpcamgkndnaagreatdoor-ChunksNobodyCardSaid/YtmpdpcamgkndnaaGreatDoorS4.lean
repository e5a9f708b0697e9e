/- The kernel goes through ChunksNobody on the abstract machine. Conditions: the two tables lie at their names. -/
import Derived.Test.YtmpdpcamgkndnaaGreatDoorS3
set_option linter.unusedSimpArgs false
set_option linter.constructorNameAsVariable false
set_option linter.unusedVariables false
set_option maxRecDepth 1000000
namespace Go.Proofs.YtmpdpcamgkndnaaGreatDoor
open Go Go.Am
noncomputable def fn3 : AFn := match fns 3 with
  | some fn => fn
  | none => ⟨0, [], .skip, fun _ _ => none⟩
theorem fn3_is : fns 3 = some fn3 := by kernel_rfl
noncomputable def A3 : AC := fn3.body.l
noncomputable def B3 : AC := fn3.body.r.l
noncomputable def R3 : AC := fn3.body.r.r
theorem body3 : fn3.body = .seq A3 (.seq B3 R3) := by kernel_rfl
def ids (x : Nat → Int) : List AV := (List.range 32).map fun i => .int .u8 (x i)
def h0 (es : Nat → Nat) : Heap := (((Heap.empty.resv 4).put 0 (.cells (es 0) shaK true)).put 2 (.cells (es 2) half true))
def h1 (es : Nat → Nat) (x : Nat → Int) : Heap := (h0 es).new (.cells 24 (ids x) false)
def tA (b : AV) (x : Nat → Int) : List AV := [b, .agg (ids x), undefA, .ptr (some (4, 0)), .bool false] ++ List.replicate 104 undefA
def tB (b : AV) (x : Nat → Int) : List AV := [.top, .agg (ids x), undefA, .ptr (some (4, 0)), .bool false] ++ List.replicate 10 undefA ++ [b, .top] ++ List.replicate 92 undefA
def sA (es : Nat → Nat) (b : AV) (x : Nat → Int) : St := { t := tA b x, h := h1 es x, d := [], rd := false }
def sB (es : Nat → Nat) (b : AV) (x : Nat → Int) : St := { t := tB b x, h := h1 es x, d := [], rd := false }
theorem runA (es : Nat → Nat) (b : AV) (x : Nat → Int) : arun fns 1000000 A3 { t := [b, .agg (ids x)] ++ List.replicate (fn3.ntmps - 2) undefA, h := h0 es, d := [], rd := false } = some (.normal, sA es b x) := by kernel_rfl
theorem runB1 (es : Nat → Nat) (n c : Nat) (x : Nat → Int) : arun fns 1000000 B3 (sA es (.sl (some (3, 0)) n c none) x) = some (.normal, sB es (.sl (some (3, 0)) n c none) x) := by kernel_rfl
theorem runB2 (es : Nat → Nat) (x : Nat → Int) : arun fns 1000000 B3 (sA es (.sl none 0 0 none) x) = some (.normal, sB es (.sl none 0 0 none) x) := by kernel_rfl
theorem runR (es : Nat → Nat) (b : AV) (x : Nat → Int) : okVal (.bool true) (endT fn3.res (arunT fns 1000000 R3 ⟨(sB es b x).t.length, mkTr (sB es b x).t.length (sB es b x).t 0 .nil, (sB es b x).h, (sB es b x).d, (sB es b x).rd⟩)) = true := by kernel_rfl
end Go.Proofs.YtmpdpcamgkndnaaGreatDoor

/- What is known ahead of calls of hoardref01.Cut and sha.Sum is true of the program. Conditions: none. -/
import Derived.Test.YtmpdpcamgkndnaaGreatDoorS1
import Derived.Test.YtmpdpcamgkndnaaGreatDoorS2
set_option linter.unusedSimpArgs false
set_option linter.constructorNameAsVariable false
set_option linter.unusedVariables false
set_option maxRecDepth 1000000
namespace Go.Proofs.YtmpdpcamgkndnaaGreatDoor
open Go Go.Am
def half : List AV := [0, 498536548, 997073096, 651767980, 1994146192, 1802195444, 1303535960, 1342533948, 3988292384, 4027552580, 3604390888, 3412177804, 2607071920, 2262029012, 2685067896, 3183342108].map fun n => .int .u32 n
theorem sha_memo : MemoOk Tryz.prog 15 (memoB glSha [([97, 98, 99], shaAbc)]) := by
  refine memo_ok mixed (cFn_ok _) ?_ ?_ ?_
  · rw [globals_size]; simp [glSha]
  · intro g hg
    simp only [glSha, List.mem_singleton] at hg
    subst hg
    decide +kernel
  · intro x hx
    simp only [List.mem_singleton] at hx
    subst hx
    refine ⟨by decide +kernel, fun es e => ?_⟩
    rw [globals_size]
    exact sha_run es e
def mt (f : Nat) : List AV → Heap → Option AV :=
  match f with
  | 4 => fun args _ =>
      match args with
      | [.sl _ _ _ none, .int .i64 k] => if k = 50 then some .top else none
      | _ => none
  | 15 => memoB glSha [([97, 98, 99], shaAbc)]
  | _ => fun _ _ => none
theorem mt_ok : ∀ f, MemoOk Tryz.prog f (mt f)
  | 4 => cut_memo
  | 15 => sha_memo
  | f => by
    unfold mt
    split
    · exact cut_memo
    · exact sha_memo
    · exact memo_none
noncomputable abbrev fns : Nat → Option AFn := cFnM Tryz.prog mt
theorem fns_ok : Fns Tryz.prog fns := cFnM_ok mt_ok
end Go.Proofs.YtmpdpcamgkndnaaGreatDoor

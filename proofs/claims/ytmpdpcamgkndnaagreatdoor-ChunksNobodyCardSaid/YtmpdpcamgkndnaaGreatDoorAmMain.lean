/- The abstract machine against the model: a call of a function of the table does in the model what the machine says. Conditions: the program follows 'mixedOrders'; each function of the table is the program's own, compiled. -/
import Derived.Test.YtmpdpcamgkndnaaGreatDoorAmDrw3
import Derived.Test.YtmpdpcamgkndnaaGreatDoorAmRun
set_option linter.constructorNameAsVariable false
set_option linter.unusedSimpArgs false
set_option linter.unusedVariables false
namespace Go.Am
open Go.RowKit (Below)

section
variable {P : Program} {w0 : World} {fns : Nat → Option AFn} {ρ : Ren} {X : Frm} {h : Heap} {w : World}

theorem snd_awp (hm : P.follows .mixedOrders = true) (hfns : Fns P fns) : ∀ n, Snd P w0 (awp fns n)
  | 0 => fun c C hC s K hq => hq.elim
  | n + 1 => snd_step hm (snd_awp hm hfns n) (dsnd hm (snd_awp hm hfns n) hfns) hfns

theorem wide_fc : Fc Fence.wide := ⟨fun _ => trivial, rfl⟩

/-- A call that the machine goes through is a call of the model's. -/
theorem acall_sound (hm : P.follows .mixedOrders = true) (hfns : Fns P fns) (H : HR P w0 ρ X h w) {n f : Nat} {args : List AV} {args' : Array Value} (hargs : VRs ρ args args'.toList) {K : AV → Heap → Prop}
    (hq : acall fns n f args h K) : Calls P f args' w (RetPost P w0 ρ X K) :=
  callsIn_wide.1 (callF_sound (F := Fence.wide) (snd_awp hm hfns n) hfns H hargs hq wide_fc 0)

/-- The function returns true, and no block of the world it began in is turned. -/
theorem acall_true (hm : P.follows .mixedOrders = true) (hfns : Fns P fns) (H : HR P w0 ρ X h w) {n f : Nat} {args : List AV} {args' : Array Value} (hargs : VRs ρ args args'.toList)
    (hq : acall fns n f args h fun v _ => v = .bool true) : Calls P f args' w fun e w' => e = .returned (.bool true) ∧ Below w0.heap.size w0 w' := by
  refine Calls.mono (acall_sound hm hfns H hargs hq) ?_
  intro e w' hR
  cases e with
  | returned v' =>
    obtain ⟨v, h', ρ', rfl, _, H', hv⟩ := hR
    exact ⟨by rw [vBool hv], H'.below⟩
  | panicked ch => exact hR.elim
  | outgrown => exact hR.elim

end
end Go.Am

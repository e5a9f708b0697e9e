/- The abstract machine, tuned for the kernel: operations with their operands put in. Conditions: none. -/
import Derived.Test.YtmpdpcamgkndnaaGreatDoorAmK1
set_option linter.constructorNameAsVariable false
set_option linter.unusedSimpArgs false
set_option linter.unusedVariables false
namespace Go.Am

section
variable (e : AO → AV)

def subP (l : List (Nat × Nat × AO)) : List (Nat × Nat × AO) := l.map fun p => (p.1, p.2.1, .c (e p.2.2))
def subL (l : List AO) : List AO := l.map fun x => .c (e x)
def subO (o : Option AO) : Option AO := o.map fun x => .c (e x)

/-- The operands become what they are. -/
def AOp.sub : AOp → AOp
  | .mov x => .mov (.c (e x))
  | .pick c a b => .pick (.c (e c)) (.c (e a)) (.c (e b))
  | .build z ps => .build z (subP e ps)
  | .load x => .load (.c (e x))
  | .loadN n x => .loadN n (.c (e x))
  | .nilCheck x => .nilCheck (.c (e x))
  | .bin op x y => .bin op (.c (e x)) (.c (e y))
  | .eq n k x y => .eq n k (.c (e x)) (.c (e y))
  | .un op x => .un op (.c (e x))
  | .conv k x => .conv k (.c (e x))
  | .same x => .same (.c (e x))
  | .bytesStr x => .bytesStr (.c (e x))
  | .s2a n x => .s2a n (.c (e x))
  | .mkFn f l => .mkFn f (subL e l)
  | .sliceStr x lo hi => .sliceStr (.c (e x)) (subO e lo) (subO e hi)
  | .sliceSl s x lo hi m => .sliceSl s (.c (e x)) (subO e lo) (subO e hi) (subO e m)
  | .sliceArr n s x lo hi m => .sliceArr n s (.c (e x)) (subO e lo) (subO e hi) (subO e m)
  | .fieldAddr o x => .fieldAddr o (.c (e x))
  | .field1 o x => .field1 o (.c (e x))
  | .fieldN o n x => .fieldN o n (.c (e x))
  | .idxAddrArr l s x i => .idxAddrArr l s (.c (e x)) (.c (e i))
  | .idxAddrSl s x i => .idxAddrSl s (.c (e x)) (.c (e i))
  | .idxArr1 l x i => .idxArr1 l (.c (e x)) (.c (e i))
  | .idxArrN l m x i => .idxArrN l m (.c (e x)) (.c (e i))
  | .idxStr x i => .idxStr (.c (e x)) (.c (e i))
  | .lookup kd z x k ok => .lookup kd z (.c (e x)) (.c (e k)) ok
  | .entry x => .entry (.c (e x))
  | .ext x i => .ext (.c (e x)) i
  | .len k x => .len k (.c (e x))
  | .lenC n => .lenC n
  | .mn l => .mn (subL e l)
  | .mx l => .mx (subL e l)
  | .cmpB x y => .cmpB (.c (e x)) (.c (e y))
  | .alloc t z => .alloc t z
  | .box t x => .box t (.c (e x))
  | .buildSl t n z ps => .buildSl t n z (subP e ps)
  | .mkMap => .mkMap
  | .mkSl t s b z l c => .mkSl t s b z (.c (e l)) (.c (e c))
  | .strBytes t x => .strBytes t (.c (e x))
  | .store n a x => .store n (.c (e a)) (.c (e x))
  | .append t s b z x y => .append t s b z (.c (e x)) (.c (e y))
  | .copy s x y => .copy s (.c (e x)) (.c (e y))
  | .clear s z x => .clear s z (.c (e x))
  | .mapUpd kd m k v => .mapUpd kd (.c (e m)) (.c (e k)) (.c (e v))
  | .delete kd m k => .delete kd (.c (e m)) (.c (e k))
  | .freeze x => .freeze (.c (e x))
  | .range x => .range (.c (e x))
  | .next x => .next (.c (e x))
  | .call f l => .call f (subL e l)
  | .callv x l => .callv (.c (e x)) (subL e l)
end

section
variable (t : List AV)

theorem subP_ev (l : List (Nat × Nat × AO)) : ((subP (AO.ev t) l).map fun p => (p.1, p.2.1, p.2.2.ev [])) = l.map fun p => (p.1, p.2.1, p.2.2.ev t) := by
  simp [subP, List.map_map, Function.comp_def, AO.ev]
theorem subL_ev (l : List AO) : (subL (AO.ev t) l).map (AO.ev []) = l.map (AO.ev t) := by
  simp [subL, List.map_map, Function.comp_def, AO.ev]
theorem subO_ev (d y : Nat) (o : Option AO) : bndO d y [] (subO (AO.ev t) o) = bndO d y t o := by
  cases o <;> simp [subO, bndO, AO.ev]
theorem subO_some (o : Option AO) : (subO (AO.ev t) o).isSome = o.isSome := by cases o <;> rfl

theorem qv_sub (h : Heap) (op : AOp) : qv h [] (op.sub (AO.ev t)) = qv h t op := by
  cases op
  case build z ps => simp only [AOp.sub, qv, subP_ev]
  all_goals first | rfl | simp only [AOp.sub, qv, subL_ev, subO_ev, subO_some, AO.ev]
theorem al_sub (op : AOp) : al [] (op.sub (AO.ev t)) = al t op := by
  cases op
  case buildSl t' n z ps => simp only [AOp.sub, al, subP_ev]
  all_goals first | rfl | simp only [AOp.sub, al, subL_ev, subO_ev, subO_some, AO.ev]
theorem ef_sub (h : Heap) (op : AOp) : ef h [] (op.sub (AO.ev t)) = ef h t op := by
  cases op <;> first | rfl | simp only [AOp.sub, ef, AO.ev]

end
end Go.Am

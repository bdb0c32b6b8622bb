/- A part of the abstract machine's laws: steps, calls and loops over abstract heaps. -/
import Derived.Test.YtmjalehlcbfljaaDoorAmW
set_option linter.unusedSectionVars false
set_option linter.defProp false
set_option linter.unusedVariables false
set_option linter.unusedSimpArgs false
set_option linter.unnecessarySimpa false
namespace Go.AM
open Go
variable [Ground]

/-! ### calls that are known from elsewhere -/
/-- The world is as it was, but for new blocks. -/
structure Grew (w w' : World) : Prop where
  tape : w'.tape = w.tape
  os : w'.os = w.os
  output : w'.output = w.output
  size : w.heap.size ≤ w'.heap.size
  block : ∀ b, b < w.heap.size → w'.heap[b]? = w.heap[b]?
theorem Grew.refl (w : World) : Grew w w := ⟨rfl, rfl, rfl, Nat.le_refl _, fun _ _ => rfl⟩
section
variable {P : Program}
theorem AC.grew {f : FuncId} {args : List Value} {h : AHeap} {v : Value} (hcal : cal P f = true) (hv : closed v = true)
    (hh : ∀ (base : Nat) (ι : Inj) (args' : List Value) (w : World), Inv base ι w → VRL P ι args args' → HR P ι h w → Calls P f args'.toArray w fun e w' => e = .returned v ∧ Grew w w') : AC P f args h v h := by
  refine ⟨hcal, Nat.le_refl _, fun base ι args' w hi hf ha hr => (hh base ι args' w hi ha hr).mono ?_⟩
  rintro e w' ⟨rfl, g⟩
  have hb : ∀ b, b < base → w'.heap[b]? = w.heap[b]? := fun b hb => g.block b (Nat.lt_of_lt_of_le hb hi.le)
  refine ⟨v, ι, rfl, VR.closed hv, ⟨Nat.le_trans hi.le g.size, fun k l hk => Nat.lt_of_lt_of_le (hi.lt k l hk) g.size, hi.own, hi.ro, hi.gl' hb⟩, ⟨fun k o l hk hl => (hr.obj k o l hk hl).keep (Sub.refl ι) (g.block _ (hi.lt k l hl)), hr.apart⟩, ⟨Nat.le_refl _, fun _ _ => rfl, fun k l h1 h2 => by omega, fun k o' _ ho hw => ⟨o', ho, hw⟩, g.size, g.tape, g.os, g.output, fun b hb => .inr (g.block b hb)⟩⟩
theorem ACp.grew {f : FuncId} {args : List Value} {h : AHeap} {v : Value} (hcal : cal P f = true) (hv : closed v = true)
    (hh : ∀ (base : Nat) (ι : Inj) (args' : List Value) (w : World), Inv base ι w → VRL P ι args args' → HR P ι (frz h) w → Calls P f args'.toArray w fun e w' => e = .returned v ∧ Grew w w') : ACp P f args h v [] := by
  unfold ACp
  rw [List.append_nil]
  exact AC.grew hcal hv hh
/-- Of such a value, what is in the world is the same. -/
def plain : Value → Bool
  | .bool _ | .int _ _ | .string _ => true
  | _ => false
theorem VR.plain_eq {ι : Inj} {v v' : Value} (h : VR P ι v v') (hp : plain v = true) : v' = v := by
  cases h <;> first | rfl | cases hp
theorem VRL.plain_eq {ι : Inj} {a b : List Value} (h : VRL P ι a b) (hp : a.all plain = true) : b = a := by
  rw [List.all_eq_true] at hp
  refine List.ext_getElem h.1.symm fun i h1 h2 => ?_
  exact (h.2 i a[i] b[i] (by simp [h2]) (by simp [h1])).plain_eq (hp _ (List.getElem_mem h2))
/-- A call at plain arguments. -/
theorem ACp.plain {f : FuncId} {args : List Value} (h : AHeap) {v : Value} (hcal : cal P f = true) (hv : closed v = true) (hp : args.all plain = true)
    (hh : ∀ w : World, Ground.ok w → Calls P f args.toArray w fun e w' => e = .returned v ∧ Grew w w') : ACp P f args h v [] :=
  ACp.grew hcal hv fun base ι args' w hi ha hr => by rw [ha.plain_eq hp]; exact hh w hi.gl.2
end
end Go.AM

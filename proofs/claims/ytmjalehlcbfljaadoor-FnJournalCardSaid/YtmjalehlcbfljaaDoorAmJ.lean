/- A part of the abstract machine's laws: steps, calls and loops over abstract heaps. -/
import Derived.Test.YtmjalehlcbfljaaDoorAmI
set_option linter.unusedSectionVars false
set_option linter.defProp false
set_option linter.unusedVariables false
set_option linter.unusedSimpArgs false
set_option linter.unnecessarySimpa false
namespace Go.AM
open Go
variable [Ground]

/-- The values of operands in an abstract frame. -/
def ev (fr : List Value) : Operand → Value
  | .tmp t => fr.getD t undef
  | .const v => if closed v = true then v else junk
  | .global _ => junk
  | .func f => .func (.func f) #[] #[]
def aput (fr : List Value) (dst : Option Tmp) (v : Value) : List Value :=
  match dst with
  | some d => fr.set d v
  | none => fr
/-- Is an operation wanted? -/
def awant (ops : List Oper) (fr : List Value) (o : Oper) : Option Bool :=
  match o.guard with
  | none => some true
  | some (j, want) => match ((ops[j]?).bind (·.dst)).bind (fr[·]?) with
    | some (.bool b) => some (b == want)
    | some (.tuple _) => some false
    | none => some false
    | _ => none
def callOf (o : Oper) (ρ : Operand → Value) : Option (FuncId × List Value) :=
  match o.op with
  | .call ⟨.value f, args, _⟩ => match ρ f with
    | .func (.func k) first captured => some (k, first.toList ++ args.toList.map ρ ++ captured.toList)
    | _ => none
  | _ => none

section
variable {P : Program} {ι : Inj} {base : Nat}

theorem slot_ok {fr : List Value} {a : Act} (h : VRL P ι fr a.tmps.toList) (t : Nat) : VR P ι (fr.getD t undef) (a.tmps.getD t undef) := by
  have hl : fr.length = a.tmps.size := h.1.trans (Array.length_toList)
  by_cases ht : t < fr.length
  · have ht' : t < a.tmps.size := by omega
    rw [List.getD_eq_getElem?_getD, Array.getD_eq_getD_getElem?]
    exact h.2 t _ _ (by simp [ht]) (by simp [ht'])
  · rw [List.getD_eq_getElem?_getD, Array.getD_eq_getD_getElem?, List.getElem?_eq_none (by omega), Array.getElem?_eq_none (by omega)]
    exact VR.undef
theorem ev_ok {fr : List Value} {a : Act} (h : VRL P ι fr a.tmps.toList) (x : Operand) : VR P ι (ev fr x) (a.eval x) := by
  cases x with
  | tmp t => exact slot_ok h t
  | const v =>
    simp only [ev, Act.eval]
    split
    · rename_i hc; exact VR.closed hc
    · exact .junk _
  | global g => exact .junk _
  | func f => exact .func _ _ _ _ _ rfl (by simp) rfl (by simp)

theorem aput_ok {fr : List Value} {a : Act} (h : VRL P ι fr a.tmps.toList) (dst : Option Tmp) {v v' : Value} (hv : VR P ι v v') : VRL P ι (aput fr dst v) (a.put dst v').tmps.toList := by
  cases dst with
  | none => exact h
  | some d => simp only [aput, Act.put, Array.toList_setIfInBounds]; exact h.set d hv

theorem awant_ok {ops : Array Oper} {fr : List Value} {tmps : Array Value} {o : Oper} {b : Bool} (ha : awant ops.toList fr o = some b)
    (h : ∀ j want, o.guard = some (j, want) → ∀ d, ((ops[j]?).bind (·.dst)) = some d → (∀ x, fr[d]? = some x → ∃ y, tmps[d]? = some y ∧ VR P ι x y) ∧ (fr[d]? = none → tmps[d]? = none)) :
    Region.wanted o (yielded ops tmps) = b := by
  unfold awant at ha
  unfold Region.wanted
  cases hg : o.guard with
  | none => rw [hg] at ha; simpa using ha
  | some g =>
    obtain ⟨j, want⟩ := g
    rw [hg] at ha
    simp only [Array.getElem?_toList] at ha
    simp only [yielded]
    cases hd : (ops[j]?).bind (·.dst) with
    | none => rw [hd] at ha; simp at ha; subst ha; simp
    | some d =>
      rw [hd] at ha
      obtain ⟨h1, h2⟩ := h j want hg d hd
      cases hx : fr[d]? with
      | none =>
        rw [Option.bind_some, hx] at ha
        simp at ha; subst ha
        simp [h2 hx]
      | some x =>
        rw [Option.bind_some, hx] at ha
        obtain ⟨y, hy, hv⟩ := h1 x hx
        simp only [Option.bind_some, hy]
        cases x <;> simp only [Option.some.injEq, reduceCtorEq] at ha
        · cases hv; subst ha; simp
        · cases hv; subst ha; simp

theorem call_run {o : Oper} {ρ ρ' : Operand → Value} {f : FuncId} {args : List Value} (hc : callOf o ρ = some (f, args)) (hρ : ∀ x ∈ o.op.operands.toList, VR P ι (ρ x) (ρ' x)) (hcal : cal P f = true) (w : World) :
    ∃ args', (execOp ρ' o).run P w = .ok (.enter f args'.toArray) w ∧ VRL P ι args args' := by
  unfold callOf at hc
  split at hc
  · rename_i g as tys hop
    split at hc
    · rename_i k first captured hf
      cases hc
      have h1 := hρ g (by rw [hop]; simp [Op.operands, Call.operands])
      rw [hf] at h1
      generalize hg : ρ' g = gv at h1
      cases h1 with
      | func _ a b c d k1 k2 k3 k4 =>
        refine ⟨b.toList ++ as.toList.map ρ' ++ d.toList, ?_, ((?_ : VRL P ι _ _).append ?_).append ?_⟩
        · unfold cal at hcal
          split at hcal
          · rename_i fn hfn
            simp only [Bool.and_eq_true, bne_iff_ne, ne_eq] at hcal
            obtain ⟨hb, hnm⟩ := hcal
            have hb' : fn.body.isNone = false := by cases hbb : fn.body <;> simp_all
            have hnb : ¬ fn.body = none := by intro e; rw [e] at hb'; cases hb'
            have he : (b.toList ++ as.toList.map ρ' ++ d.toList).toArray = b ++ as.map ρ' ++ d := Array.ext' (by simp)
            rw [he]
            simp [execOp, hop, resolve, hg, Deferred.ofValue, invoke, callFunc, hfn, hnb, hnm]
          · cases hcal
        · exact ⟨by simpa using k1, fun i x y hx hy => k2 i x y (by simpa using hx) (by simpa using hy)⟩
        · refine ⟨by simp, fun i x y hx hy => ?_⟩
          simp only [List.getElem?_map, Option.map_eq_some_iff] at hx hy
          obtain ⟨p, hp, rfl⟩ := hx
          obtain ⟨q, hq, rfl⟩ := hy
          rw [hp] at hq; cases hq
          exact hρ _ (by rw [hop]; simp only [Op.operands, Call.operands, Array.toList_append, List.mem_append]; exact .inr (List.mem_of_getElem? hp))
        · exact ⟨by simpa using k3, fun i x y hx hy => k4 i x y (by simpa using hx) (by simpa using hy)⟩
    · cases hc
  · cases hc
end

/-! ### a region whose order is that of the text -/
def AW (P : Program) (ops : List Oper) : List Oper → List Value → AHeap → (List Value → AHeap → Prop) → Prop
  | [], fr, h, K => K fr h
  | o :: r, fr, h, K => match awant ops fr o with
    | some false => AW P ops r (aput fr o.dst undef) h K
    | some true => match callOf o (ev fr) with
      | some (f, args) => ∃ v h', AC P f args h v h' ∧ AW P ops r (aput fr o.dst v) h' K
      | none => match aop P o.op (ev fr) h with
        | some (v, h') => AW P ops r (aput fr o.dst v) h' K
        | none => False
    | none => False

/-- The state of a walk: everything that is known of a frame and a world. -/
structure Rel (P : Program) (base : Nat) (ι : Inj) (fr : List Value) (h : AHeap) (a : Act) (w : World) : Prop where
  inv : Inv base ι w
  tmps : VRL P ι fr a.tmps.toList
  hr : HR P ι h w
  defers : a.defers = []

end Go.AM

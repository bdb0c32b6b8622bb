/- A part of the abstract machine's laws: steps, calls and loops over abstract heaps. -/
import Derived.Test.YtmjalehlcbfljaaDoorAmP
set_option linter.unusedSectionVars false
set_option linter.defProp false
set_option linter.unusedVariables false
set_option linter.unusedSimpArgs false
set_option linter.unnecessarySimpa false
namespace Go.AM
open Go
variable [Ground]

/-! ### pieces of code -/
abbrev Kont := Exit → List Value → AHeap → Prop

/-- A piece of code at an abstract state, and the state that it leads to. -/
def BS (P : Program) (c : Code) (fr : List Value) (h : AHeap) (e : Exit) (fr' : List Value) (h' : AHeap) : Prop :=
  h.length ≤ h'.length ∧ ∀ (base : Nat) (ι : Inj) (a : Act) (w : World) (Q : Exit → Act → World → Prop), Rel P base ι fr h a w → Free ι h.length h'.length →
    (∀ ι' a' w', Rel P base ι' fr' h' a' w' → Upd ι ι' h h' w w' → Q e a' w') → c.wp P Q a w
/-- The same at the head of a round of a loop. -/
def BL (P : Program) (c : Code) (fr : List Value) (h : AHeap) (e : Exit) (fr' : List Value) (h' : AHeap) : Prop :=
  h.length ≤ h'.length ∧ ∀ (base : Nat) (ι : Inj) (a : Act) (w : World) (Q : Exit → Act → World → Prop), Rel P base ι fr h a w → Free ι h.length h'.length →
    (∀ ι' a' w', Rel P base ι' fr' h' a' w' → Upd ι ι' h h' w w' → Q e a' w') → ∀ (b : Frame) (k : List Item) (cs : List Frame),
      ∃ e a' w', Q e a' w' ∧ Arrives P (lone (b.at a (.code c :: .inLoop c :: k)) cs w) b k cs e a' w'
def CW (P : Program) (c : Code) (fr : List Value) (h : AHeap) (K : Kont) : Prop := ∃ e fr' h', K e fr' h' ∧ BS P c fr h e fr' h'
def CL (P : Program) (c : Code) (K : Kont) (fr : List Value) (h : AHeap) : Prop := ∃ e fr' h', K e fr' h' ∧ BL P c fr h e fr' h'

def kthen (M : List Value → AHeap → Prop) (K : Kont) : Kont := fun e fr h => match e with | .normal => M fr h | e => K e fr h
@[simp] theorem kthen_normal (M : List Value → AHeap → Prop) (K : Kont) (fr : List Value) (h : AHeap) : kthen M K .normal fr h = M fr h := rfl
@[simp] theorem kthen_exit (M : List Value → AHeap → Prop) (K : Kont) (fr : List Value) (h : AHeap) (id : Nat) : kthen M K (.exit id) fr h = K (.exit id) fr h := rfl
@[simp] theorem kthen_ret (M : List Value → AHeap → Prop) (K : Kont) (fr : List Value) (h : AHeap) : kthen M K .ret fr h = K .ret fr h := rfl
def kblock (id : Nat) (K : Kont) : Kont := fun e fr h => match e with | .exit i => if i = id then K .normal fr h else K (.exit i) fr h | e => K e fr h
@[simp] theorem kblock_normal (id : Nat) (K : Kont) (fr : List Value) (h : AHeap) : kblock id K .normal fr h = K .normal fr h := rfl
@[simp] theorem kblock_ret (id : Nat) (K : Kont) (fr : List Value) (h : AHeap) : kblock id K .ret fr h = K .ret fr h := rfl
@[simp] theorem kblock_exit (id i : Nat) (K : Kont) (fr : List Value) (h : AHeap) : kblock id K (.exit i) fr h = if i = id then K .normal fr h else K (.exit i) fr h := rfl

section
variable {P : Program}

theorem CW.mono {c : Code} {fr : List Value} {h : AHeap} {K K' : Kont} (hc : CW P c fr h K) (hk : ∀ e fr h, K e fr h → K' e fr h) : CW P c fr h K' := by
  obtain ⟨e, fr', h', k, b⟩ := hc
  exact ⟨e, fr', h', hk _ _ _ k, b⟩
theorem CL.mono {c : Code} {fr : List Value} {h : AHeap} {K K' : Kont} (hc : CL P c K fr h) (hk : ∀ e fr h, K e fr h → K' e fr h) : CL P c K' fr h := by
  obtain ⟨e, fr', h', k, b⟩ := hc
  exact ⟨e, fr', h', hk _ _ _ k, b⟩

theorem CW.skip {fr : List Value} {h : AHeap} {K : Kont} (hk : K .normal fr h) : CW P .skip fr h K :=
  ⟨_, _, _, hk, Nat.le_refl _, fun base ι a w Q hr hf hQ => wp_skip (hQ _ _ _ hr (.refl _ _ _))⟩
theorem CW.ret {fr : List Value} {h : AHeap} {K : Kont} (hk : K .ret fr h) : CW P .ret fr h K :=
  ⟨_, _, _, hk, Nat.le_refl _, fun base ι a w Q hr hf hQ => wp_ret (hQ _ _ _ hr (.refl _ _ _))⟩
theorem CW.exit {id : Nat} {fr : List Value} {h : AHeap} {K : Kont} (hk : K (.exit id) fr h) : CW P (.exit id) fr h K :=
  ⟨_, _, _, hk, Nat.le_refl _, fun base ι a w Q hr hf hQ => wp_exit (hQ _ _ _ hr (.refl _ _ _))⟩

theorem Free.sub {ι : Inj} {a b c d : Nat} (hf : Free ι a d) (h1 : a ≤ b) (h2 : c ≤ d) : Free ι b c := fun k k1 k2 => hf k (by omega) (by omega)

theorem CW.seq {x y : Code} {fr : List Value} {h : AHeap} {K : Kont} (hx : CW P x fr h (kthen (fun fr' h' => CW P y fr' h' K) K)) : CW P (.seq x y) fr h K := by
  obtain ⟨e, fr1, h1, k, l1, b1⟩ := hx
  cases e with
  | normal =>
    obtain ⟨e2, fr2, h2, k2, l2, b2⟩ := k
    refine ⟨e2, fr2, h2, k2, Nat.le_trans l1 l2, fun base ι a w Q hr hf hQ => wp_seq (b1 base ι a w _ hr (hf.sub (Nat.le_refl _) l2) fun ι' a' w' hr' hu => ?_)⟩
    exact b2 base ι' a' w' Q hr' (hu.free hf) fun ι2 a2 w2 hr2 hu2 => hQ ι2 a2 w2 hr2 (hu.trans hu2)
  | _ => exact ⟨_, fr1, h1, k, l1, fun base ι a w Q hr hf hQ => wp_seq (b1 base ι a w _ hr hf fun ι' a' w' hr' hu => hQ ι' a' w' hr' hu)⟩

theorem CW.block {id : Nat} {c : Code} {fr : List Value} {h : AHeap} {K : Kont} (hx : CW P c fr h (kblock id K)) : CW P (.block id c) fr h K := by
  obtain ⟨e, fr1, h1, k, l1, b1⟩ := hx
  cases e with
  | exit i =>
    simp only [kblock] at k
    split at k
    · rename_i e
      exact ⟨_, fr1, h1, k, l1, fun base ι a w Q hr hf hQ => wp_block (b1 base ι a w _ hr hf fun ι' a' w' hr' hu => by simp only [Exit.inBlock, if_pos e]; exact hQ ι' a' w' hr' hu)⟩
    · rename_i e
      exact ⟨_, fr1, h1, k, l1, fun base ι a w Q hr hf hQ => wp_block (b1 base ι a w _ hr hf fun ι' a' w' hr' hu => by simp only [Exit.inBlock, if_neg e]; exact hQ ι' a' w' hr' hu)⟩
  | _ => exact ⟨_, fr1, h1, k, l1, fun base ι a w Q hr hf hQ => wp_block (b1 base ι a w _ hr hf fun ι' a' w' hr' hu => hQ ι' a' w' hr' hu)⟩

theorem CW.cond {o : Operand} {x y : Code} {fr : List Value} {h : AHeap} {K : Kont} (b : Bool) (ho : ev fr o = .bool b) (hx : CW P (if b = true then x else y) fr h K) : CW P (.cond o x y) fr h K := by
  obtain ⟨e, fr1, h1, k, l1, b1⟩ := hx
  refine ⟨e, fr1, h1, k, l1, fun base ι a w Q hr hf hQ => wp_cond (t := b) ?_ (b1 base ι a w Q hr hf hQ)⟩
  have := ev_ok hr.tmps o
  rw [ho] at this
  cases hh : a.eval o <;> rw [hh] at this <;> cases this
  rfl

theorem AW_det {ops : List Oper} {K : List Value → AHeap → Prop} : ∀ (l : List Oper) (fr : List Value) (h : AHeap), AW P ops l fr h K → ∃ fr' h', K fr' h' ∧ h.length ≤ h'.length ∧ AW P ops l fr h (fun f g => f = fr' ∧ g = h') := by
  intro l
  induction l with
  | nil => intro fr h hk; exact ⟨fr, h, hk, Nat.le_refl _, rfl, rfl⟩
  | cons o r ih =>
    intro fr h hw
    unfold AW at hw ⊢
    split at hw
    · rename_i e; obtain ⟨fr', h', k1, k2, k3⟩ := ih _ _ hw; exact ⟨fr', h', k1, k2, k3⟩
    · rename_i e
      split at hw
      · rename_i e2
        obtain ⟨v, h1, hac, hr⟩ := hw
        obtain ⟨fr', h', k1, k2, k3⟩ := ih _ _ hr
        exact ⟨fr', h', k1, Nat.le_trans hac.2.1 k2, ⟨v, h1, hac, k3⟩⟩
      · rename_i e2
        split at hw
        · rename_i v h1 hop
          obtain ⟨fr', h', k1, k2, k3⟩ := ih _ _ hw
          exact ⟨fr', h', k1, Nat.le_trans (aop_abs hop).len k2, k3⟩
        · exact hw.elim
    · exact hw.elim

theorem ADW_det {ops : List Oper} {n0 : Nat} {K : List Value → AHeap → Prop} : ∀ (l : List Oper) (j : Nat) (acc : List (Nat × List Nat × List Nat)) (fr : List Value) (h : AHeap), ADW P ops n0 j acc l fr h K → ∃ fr' h', K fr' h' ∧ h.length ≤ h'.length ∧ ADW P ops n0 j acc l fr h (fun f g => f = fr' ∧ g = h') := by
  intro l
  induction l with
  | nil => intro j acc fr h hk; exact ⟨fr, h, hk, Nat.le_refl _, rfl, rfl⟩
  | cons o r ih =>
    intro j acc fr h hw
    unfold ADW at hw ⊢
    split at hw
    · rename_i e; obtain ⟨fr', h', k1, k2, k3⟩ := ih _ _ _ _ hw; exact ⟨fr', h', k1, k2, k3⟩
    · rename_i e
      split at hw
      · rename_i e2
        obtain ⟨g, v, g', T, W, hle, hac, htw, hd, hr⟩ := hw
        obtain ⟨fr', h', k1, k2, k3⟩ := ih _ _ _ _ hr
        exact ⟨fr', h', k1, Nat.le_trans (mg_len _ _ _) k2, ⟨g, v, g', T, W, hle, hac, htw, hd, k3⟩⟩
      · rename_i e2
        split at hw
        · rename_i v h1 hop
          obtain ⟨fr', h', k1, k2, k3⟩ := ih _ _ _ _ hw.2
          exact ⟨fr', h', k1, Nat.le_trans (aop_abs hop).len k2, hw.1, k3⟩
        · exact hw.elim
    · exact hw.elim

theorem CW.region {id : Nat} {ops : Array Oper} {fr : List Value} {h : AHeap} {K : Kont} (hx : AW P ops.toList ops.toList fr h (K .normal)) : CW P (.region id ops false) fr h K := by
  obtain ⟨fr', h', k, hl, hx'⟩ := AW_det _ _ _ hx
  refine ⟨.normal, fr', h', k, hl, fun base ι a w Q hr hf hQ => ?_⟩
  refine wp_region_list (AW_sound (fun fr h k => by rw [k.2]; exact Nat.le_refl _) _ _ _ hx' ι a w hr hf fun fr' h' ι' a' w' k hr' hu => ?_)
  obtain ⟨rfl, rfl⟩ := k
  exact hQ _ _ _ hr' hu

theorem CW.drawn (hm : P.follows .mixedOrders = true) {id : Nat} {ops : Array Oper} (hc : chk ops.toList = true) {fr : List Value} {h : AHeap} {K : Kont} (hx : ADW P ops.toList h.length 0 [] ops.toList fr h (K .normal)) : CW P (.region id ops true) fr h K := by
  obtain ⟨fr', h', k, hl, hx'⟩ := ADW_det _ _ _ _ _ hx
  refine ⟨.normal, fr', h', k, hl, fun base ι a w Q hr hf hQ => ?_⟩
  refine ADW_sound hm hc (fun fr h k => by rw [k.2]; exact Nat.le_refl _) hx' hr hf fun fr' h' ι' a' w' k hr' hu => ?_
  obtain ⟨rfl, rfl⟩ := k
  exact hQ _ _ _ hr' hu

theorem CL.round {c : Code} {K : Kont} {fr : List Value} {h : AHeap} (hx : CW P c fr h (kthen (CL P c K) K)) : CL P c K fr h := by
  obtain ⟨e, fr1, h1, k, l1, b1⟩ := hx
  cases e with
  | normal =>
    obtain ⟨e2, fr2, h2, k2, l2, b2⟩ := k
    refine ⟨e2, fr2, h2, k2, Nat.le_trans l1 l2, fun base ι a w Q hr hf hQ b k cs => ?_⟩
    have := b1 base ι a w (Exit.then (fun a' w' => ∀ (b : Frame) (k : List Item) (cs : List Frame), ∃ e a2 w2, Q e a2 w2 ∧ Arrives P (lone (b.at a' (.code c :: .inLoop c :: k)) cs w') b k cs e a2 w2) Q) hr (hf.sub (Nat.le_refl _) l2) fun ι' a' w' hr' hu =>
      b2 base ι' a' w' Q hr' (hu.free hf) fun ι2 a2 w2 hr2 hu2 => hQ ι2 a2 w2 hr2 (hu.trans hu2)
    obtain ⟨e, a₁, w₁, hq, harr⟩ := this b (.inLoop c :: k) cs
    cases e with
    | normal =>
      obtain ⟨e₂, a₂, w₂, hq₂, harr₂⟩ := hq b k cs
      exact ⟨e₂, a₂, w₂, hq₂, .of_steps (Steps.trans harr (.one step_inLoop)) harr₂⟩
    | exit id => exact ⟨_, a₁, w₁, hq, .pass (x := .inLoop c) rfl (fun _ _ => .inl (by simp)) harr⟩
    | goto l => exact ⟨_, a₁, w₁, hq, .pass (x := .inLoop c) rfl (fun _ _ => .inl (by simp)) harr⟩
    | ret => exact ⟨_, a₁, w₁, hq, .pass (x := .inLoop c) rfl (fun _ _ => .inl (by simp)) harr⟩
    | panic ch => exact ⟨_, a₁, w₁, hq, .pass (x := .inLoop c) rfl (fun _ _ => .inl (by simp)) harr⟩
    | outgrown => exact ⟨_, a₁, w₁, hq, .pass (x := .inLoop c) rfl (fun _ _ => .inl (by simp)) harr⟩
  | _ =>
    refine ⟨_, fr1, h1, k, l1, fun base ι a w Q hr hf hQ b k cs => ?_⟩
    have := b1 base ι a w (Exit.then (fun _ _ => False) Q) hr hf fun ι' a' w' hr' hu => hQ ι' a' w' hr' hu
    obtain ⟨e, a₁, w₁, hq, harr⟩ := this b (.inLoop c :: k) cs
    cases e with
    | normal => exact hq.elim
    | exit id => exact ⟨_, a₁, w₁, hq, .pass (x := .inLoop c) rfl (fun _ _ => .inl (by simp)) harr⟩
    | goto l => exact ⟨_, a₁, w₁, hq, .pass (x := .inLoop c) rfl (fun _ _ => .inl (by simp)) harr⟩
    | ret => exact ⟨_, a₁, w₁, hq, .pass (x := .inLoop c) rfl (fun _ _ => .inl (by simp)) harr⟩
    | panic ch => exact ⟨_, a₁, w₁, hq, .pass (x := .inLoop c) rfl (fun _ _ => .inl (by simp)) harr⟩
    | outgrown => exact ⟨_, a₁, w₁, hq, .pass (x := .inLoop c) rfl (fun _ _ => .inl (by simp)) harr⟩

theorem CW.loop {c : Code} {fr : List Value} {h : AHeap} {K : Kont} (hl : CL P c K fr h) : CW P (.loop c) fr h K := by
  obtain ⟨e, fr1, h1, k, l1, b1⟩ := hl
  refine ⟨e, fr1, h1, k, l1, fun base ι a w Q hr hf hQ b k cs => ?_⟩
  obtain ⟨e, a', w', hq, harr⟩ := b1 base ι a w Q hr hf hQ b k cs
  exact ⟨e, a', w', hq, .of_steps (.one step_loop) harr⟩

theorem Rel.forget {base : Nat} {ι : Inj} {fr fr0 : List Value} {h h0 : AHeap} {a : Act} {w : World} (hf : FLe fr fr0) (hh : HLe h h0) (hr : Rel P base ι fr0 h0 a w) : Rel P base ι fr h a w := by
  refine ⟨hr.inv, ⟨hf.1.trans hr.tmps.1, fun i x y hx hy => ?_⟩, hh.hr hr.hr, hr.defers⟩
  have hlt := (List.getElem?_eq_some_iff.1 hx).1
  rw [hf.1] at hlt
  have h0 : fr0[i]? = some fr0[i] := by simp [hlt]
  rcases hf.2 i x _ hx h0 with rfl | rfl
  · exact .junk _
  · exact hr.tmps.2 i _ y h0 hy
theorem CW.forget {c : Code} {fr fr0 : List Value} {h h0 : AHeap} {K : Kont} (hf : FLe fr fr0) (hh : HLe h h0) (hc : CW P c fr h K) : CW P c fr0 h0 K := by
  obtain ⟨e, fr1, h1, k, l1, b1⟩ := hc
  exact ⟨e, fr1, h1, k, hh.len ▸ l1, fun base ι a w Q hr hfr hQ => b1 base ι a w Q (hr.forget hf hh) (by rw [hh.len]; exact hfr) fun ι' a' w' hr' hu => hQ ι' a' w' hr' (hh.upd hu)⟩
theorem CL.forget {c : Code} {fr fr0 : List Value} {h h0 : AHeap} {K : Kont} (hf : FLe fr fr0) (hh : HLe h h0) (hc : CL P c K fr h) : CL P c K fr0 h0 := by
  obtain ⟨e, fr1, h1, k, l1, b1⟩ := hc
  exact ⟨e, fr1, h1, k, hh.len ▸ l1, fun base ι a w Q hr hfr hQ => b1 base ι a w Q (hr.forget hf hh) (by rw [hh.len]; exact hfr) fun ι' a' w' hr' hu => hQ ι' a' w' hr' (hh.upd hu)⟩

/-! ### a function -/
def aresult (P : Program) (h : AHeap) (fr : List Value) : ResultVar → Option Value
  | .tmp t => some (fr.getD t undef)
  | .cell a t => aLoad P t (fr.getD a undef) h
def aresults (P : Program) (rs : List ResultVar) (fr : List Value) (h : AHeap) : Option Value :=
  (rs.mapM (aresult P h fr)).map fun | [v] => v | vs => .tuple vs.toArray

def resM (tmps : Array Value) : ResultVar → Sem Value
  | .tmp t => pure (tmps.getD t undef)
  | .cell c t => do loadVar t (← asAddr (tmps.getD c undef))
theorem results_eq (fn : Func) (tmps : Array Value) : results fn tmps = (do let vs ← fn.results.mapM (resM tmps); pure (if h : vs.size = 1 then vs[0] else .tuple vs)) := by
  unfold results
  congr 1

theorem aresult_run {base : Nat} {ι : Inj} {fr : List Value} {h : AHeap} {a : Act} {w : World} (hr : Rel P base ι fr h a w) {r : ResultVar} {v : Value} (hv : aresult P h fr r = some v) :
    ∃ v', (resM a.tmps r).run P w = .ok v' w ∧ VR P ι v v' := by
  cases r with
  | tmp t => simp only [aresult, Option.some.injEq] at hv; subst hv; exact ⟨_, rfl, slot_ok hr.tmps t⟩
  | cell c t =>
    simp only [aresult] at hv
    have hs := slot_ok hr.tmps c
    obtain ⟨v', h1, h2⟩ := aLoad_run (w := w) hv hs fun k _ o l h1 h2 => hr.hr.obj k o l h1 h2
    refine ⟨v', ?_, h2⟩
    unfold aLoad at hv
    split at hv
    · rename_i id off hc
      rw [hc] at hs
      obtain ⟨l, _, he⟩ := hs.ptr_inv
      simp only [resM]
      rw [he] at h1 ⊢
      simpa [Instr.loadAt, Instr.sureAddr, asAddr] using h1
    · cases hv

theorem aresults_run {base : Nat} {ι : Inj} {fr : List Value} {h : AHeap} {a : Act} {w : World} (hr : Rel P base ι fr h a w) {fn : Func} {v : Value} (hv : aresults P fn.results.toList fr h = some v) :
    ∃ v', (results fn a.tmps).run P w = .ok v' w ∧ VR P ι v v' := by
  unfold aresults at hv
  obtain ⟨vs, h1, h2⟩ := Option.map_eq_some_iff.1 hv
  have key : ∀ (rs : List ResultVar) (vs : List Value), rs.mapM (aresult P h fr) = some vs → ∃ vs', (rs.mapM (resM a.tmps)).run P w = .ok vs' w ∧ VRL P ι vs vs' := by
    intro rs
    induction rs with
    | nil => intro vs hvs; simp at hvs; subst hvs; exact ⟨[], by simp, .nil ι⟩
    | cons r rs ih =>
      intro vs hvs
      simp only [List.mapM_cons, bind, Option.bind_eq_some_iff, pure, Option.some.injEq] at hvs
      obtain ⟨x, hx, xs, hxs, rfl⟩ := hvs
      obtain ⟨x', h3, h4⟩ := aresult_run hr hx
      obtain ⟨xs', h5, h6⟩ := ih xs hxs
      refine ⟨x' :: xs', ?_, .cons h4 h6⟩
      rw [List.mapM_cons]
      simp only [Sem.run_bind, h3, Result.andThen_ok, h5, Sem.run_pure]
  obtain ⟨vs', h3, h4⟩ := key _ _ h1
  have h5 : (fn.results.mapM (resM a.tmps)).run P w = .ok vs'.toArray w := by
    rw [Array.mapM_eq_mapM_toList, Sem.run_map, h3]; rfl
  rw [results_eq, Sem.run_bind, h5]
  simp only [Result.andThen_ok, Sem.run_pure]
  refine ⟨_, rfl, ?_⟩
  match vs, vs', h4, h2 with
  | [x], [y], h4, h2 => simp at h2; subst h2; simpa using h4.2 0 x y rfl rfl
  | [], [], h4, h2 => simp at h2; subst h2; exact .tuple _ _ rfl (by simp)
  | x :: x2 :: r, y :: y2 :: r', h4, h2 =>
    simp at h2; subst h2
    have hl := h4.1
    rw [dif_neg (by simp)]
    exact .tuple _ _ (by simpa using hl) fun i p q hp hq => h4.2 i p q (by simpa using hp) (by simpa using hq)
  | [], _ :: _, h4, _ => have := h4.1; simp at this
  | _ :: _, [], h4, _ => have := h4.1; simp at this
  | [_], _ :: _ :: _, h4, _ => have := h4.1; simp at this
  | _ :: _ :: _, [_], h4, _ => have := h4.1; simp at this

/-- What a body must leave. -/
def kfun (P : Program) (rs : List ResultVar) (R : Value → AHeap → Prop) : Kont := fun e fr h => match e with
  | .normal | .ret => ∃ v, aresults P rs fr h = some v ∧ R v h
  | _ => False

theorem AC.of {f : FuncId} {fn : Func} {c : Code} {args : List Value} {h : AHeap} {R : Value → AHeap → Prop} (hf : P.funcs[f]? = some fn) (hb : fn.body = some c) (hn : (fn.name != "runtime.NumGoroutine") = true)
    (hc : CW P c (args ++ List.replicate (fn.ntmps - args.length) undef) h (kfun P fn.results.toList R)) : ∃ v h', AC P f args h v h' ∧ R v h' := by
  obtain ⟨e, fr1, h', k, h1, h2⟩ := hc
  have hk : (e = .normal ∨ e = .ret) ∧ ∃ v, aresults P fn.results.toList fr1 h' = some v ∧ R v h' := by
    cases e <;> simp only [kfun] at k
    · exact ⟨.inl rfl, k⟩
    · exact ⟨.inr rfl, k⟩
  obtain ⟨he, v, k1, k2⟩ := hk
  refine ⟨v, h', ⟨by simp [cal, hf, hb, hn], h1, fun base ι args' w hi hfr ha hr => ?_⟩, k2⟩
  refine calls_of_wp hf hb ?_
  have hl : args'.length = args.length := ha.1.symm
  refine h2 base ι _ w _ ⟨hi, ?_, hr, rfl⟩ hfr ?_
  · simp only [List.size_toArray, Array.toList_append, Array.toList_replicate, hl]
    exact ha.append ⟨rfl, fun i x y hx hy => by
      rw [List.getElem?_replicate] at hx hy
      split at hx
      · rename_i hlt; rw [if_pos hlt] at hy; cases hx; cases hy; exact VR.undef
      · cases hx⟩
  · intro ι' a' w' hr' hu
    obtain ⟨v', j1, j2⟩ := aresults_run hr' k1
    rcases he with rfl | rfl
    · exact ⟨hr'.defers, v', j1, v', ι', rfl, j2, hr'.inv, hr'.hr, hu⟩
    · exact ⟨hr'.defers, v', j1, v', ι', rfl, j2, hr'.inv, hr'.hr, hu⟩
end
end Go.AM

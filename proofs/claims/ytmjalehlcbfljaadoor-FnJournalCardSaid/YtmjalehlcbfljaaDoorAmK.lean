/- A part of the abstract machine's laws: steps, calls and loops over abstract heaps. -/
import Derived.Test.YtmjalehlcbfljaaDoorAmJ
set_option linter.unusedSectionVars false
set_option linter.defProp false
set_option linter.unusedVariables false
set_option linter.unusedSimpArgs false
set_option linter.unnecessarySimpa false
namespace Go.AM
open Go
variable [Ground]

/-- What a step does to the old objects. -/
structure Abs (W : List Nat) (h h' : AHeap) : Prop where
  len : h.length ≤ h'.length
  same : ∀ k, k < h.length → k ∉ W → h'[k]? = h[k]?
  wr : ∀ k o', k < h.length → h'[k]? = some o' → o'.w = true → ∃ o, h[k]? = some o ∧ o.w = true

theorem Abs.refl (W : List Nat) (h : AHeap) : Abs W h h := ⟨Nat.le_refl _, fun _ _ _ => rfl, fun _ o' _ h1 h2 => ⟨o', h1, h2⟩⟩
theorem Abs.app (W : List Nat) (h t : AHeap) : Abs W h (h ++ t) := by
  refine ⟨by simp, fun k hk _ => List.getElem?_append_left hk, fun k o' hk ho hw => ?_⟩
  rw [List.getElem?_append_left hk] at ho
  exact ⟨o', ho, hw⟩
theorem Abs.hset {h h' : AHeap} {id off : Nat} {vs : List Value} (hs : hset h id off vs = some h') : Abs [id] h h' := by
  unfold AM.hset at hs
  obtain ⟨o, ho, hs⟩ := Option.bind_eq_some_iff.1 hs
  split at hs
  · rename_i hc
    cases hs
    refine ⟨by simp, fun k hk hne => ?_, fun k o' hk ho' hw => ?_⟩
    · have : id ≠ k := fun e => hne (by simp [e])
      rw [List.getElem?_set_ne this]
    · by_cases e : id = k
      · subst e; exact ⟨o, ho, hc.1⟩
      · rw [List.getElem?_set_ne e] at ho'; exact ⟨o', ho', hw⟩
  · cases hs
theorem Abs.kill {h : AHeap} {id : Nat} {o : AObj} (t : AHeap) : Abs [id] h (h.set id dead ++ t) := by
  refine ⟨by simp, fun k hk hne => ?_, fun k o' hk ho' hw => ?_⟩
  · have : id ≠ k := fun e => hne (by simp [e])
    rw [List.getElem?_append_left (by simpa using hk), List.getElem?_set_ne this]
  · rw [List.getElem?_append_left (by simpa using hk)] at ho'
    by_cases e : id = k
    · subst e
      rw [List.getElem?_set_self hk] at ho'
      cases ho'; cases hw
    · rw [List.getElem?_set_ne e] at ho'; exact ⟨o', ho', hw⟩
theorem Abs.mono {W W' : List Nat} {h h' : AHeap} (a : Abs W h h') (hs : ∀ k, k ∈ W → k ∈ W') : Abs W' h h' := ⟨a.len, fun k hk hne => a.same k hk (fun hw => hne (hs k hw)), a.wr⟩

section
variable {P : Program}

theorem aAppend_abs {t t' : TypeId} {s x v : Value} {h h' : AHeap} (ha : aAppend P t t' s x h = some (v, h')) : Abs (wAppend s x) h h' := by
  unfold aAppend at ha
  obtain ⟨e, he, h1a⟩ := Option.bind_eq_some_iff.1 ha
  clear ha
  obtain ⟨ti, hti, h2a⟩ := Option.bind_eq_some_iff.1 h1a
  clear h1a
  obtain ⟨⟨m, news⟩, hnews, ha⟩ := Option.bind_eq_some_iff.1 h2a
  clear h2a
  simp only at ha
  by_cases hm0 : m = 0
  · rw [if_pos hm0] at ha
    split at ha
    · cases ha; exact .refl _ _
    · cases ha
  · rw [if_neg hm0] at ha
    have hWs : ∀ (a : Addr) (n c : Nat), wAppend (.slice (some a) n c) x = if c = big ∨ n + m ≤ c then [a.block] else [] := by
      intro a n c
      have hx : (∃ a c0, x = .slice (some a) m c0) ∨ ∃ s, x = .string s ∧ s.size = m := by
        unfold aSrc at hnews
        split at hnews
        · unfold aNews at hnews
          split at hnews
          · cases hnews; exact (hm0 rfl).elim
          · obtain ⟨cs, _, h3⟩ := Option.map_eq_some_iff.1 hnews; cases h3; exact .inl ⟨_, _, rfl⟩
          · cases hnews
        · split at hnews
          · split at hnews
            · cases hnews; exact .inr ⟨_, rfl, rfl⟩
            · cases hnews
          · cases hnews
      rcases hx with ⟨b, c0, rfl⟩ | ⟨sx, rfl, hsz⟩
      · simp only [wAppend, if_neg hm0]
      · simp only [wAppend, hsz, if_neg hm0]
    split at ha
    · split at ha
      · split at ha
        · cases ha; exact .app _ _ _
        · cases ha
      · rename_i id off n c
        split at ha
        · split at ha
          · rename_i hbig
            obtain ⟨ob, hob, h4⟩ := Option.bind_eq_some_iff.1 ha
            split at h4
            · cases h4
              have : wAppend (.slice (some ⟨id, off, none⟩) n c) x = [id] := by simp [hWs, hbig]
              rw [this]; exact .kill (o := ob) _
            · cases h4
          · rename_i hnb
            split at ha
            · rename_i hroom
              obtain ⟨h2, hset, h5⟩ := Option.map_eq_some_iff.1 ha
              cases h5
              have : wAppend (.slice (some ⟨id, off, none⟩) n c) x = [id] := by simp [hWs, hroom]
              rw [this]; exact .hset hset
            · obtain ⟨olds, hold, h5⟩ := Option.map_eq_some_iff.1 ha
              cases h5; exact .app _ _ _
        · cases ha
      · cases ha
    · cases ha

theorem aop_abs {op : Op} {ρ : Operand → Value} {v : Value} {h h' : AHeap} (ha : aop P op ρ h = some (v, h')) : Abs (wOp op ρ) h h' := by
  cases op with
  | alloc e =>
    simp only [aop, aAlloc] at ha
    obtain ⟨ti, hti, h1a⟩ := Option.bind_eq_some_iff.1 ha
    split at h1a
    · cases h1a; exact .app _ _ _
    · cases h1a
  | box e x =>
    simp only [aop, aBox] at ha
    split at ha
    · cases ha; exact .app _ _ _
    · cases ha
  | buildSlice t len parts =>
    simp only [aop, aBuildSlice] at ha
    obtain ⟨e, he, h1a⟩ := Option.bind_eq_some_iff.1 ha
    obtain ⟨ti, hti, h2a⟩ := Option.bind_eq_some_iff.1 h1a
    split at h2a
    · obtain ⟨cs, _, h3⟩ := Option.map_eq_some_iff.1 h2a; cases h3; exact .app _ _ _
    · cases h2a
  | makeSlice t l c =>
    simp only [aop, aMake] at ha
    split at ha
    · obtain ⟨e, he, h1a⟩ := Option.bind_eq_some_iff.1 ha
      obtain ⟨ti, hti, h2a⟩ := Option.bind_eq_some_iff.1 h1a
      split at h2a
      · cases h2a; exact .app _ _ _
      · cases h2a
    · cases ha
  | store t a x =>
    simp only [aop] at ha
    obtain ⟨h1', hv, he⟩ := Option.map_eq_some_iff.1 ha; cases he
    unfold aStore at hv
    split at hv
    · rename_i hpa
      obtain ⟨ti, hti, h1a⟩ := Option.bind_eq_some_iff.1 hv
      split at h1a
      · simp only [wOp, hpa, idOf]; exact .hset h1a
      · cases h1a
    · cases hv
  | nilCheck x =>
    simp only [aop] at ha
    split at ha
    · cases ha; exact .refl _ _
    · cases ha
  | convert s d x =>
    simp only [aop] at ha
    split at ha <;> (obtain ⟨v0, hv, he⟩ := Option.map_eq_some_iff.1 ha; cases he; exact .refl _ _)
  | makeInterface t x =>
    simp only [aop] at ha
    split at ha
    · cases ha; exact .refl _ _
    · cases ha
  | move x | assign x => simp only [aop, Option.some.injEq, Prod.mk.injEq] at ha; obtain ⟨rfl, rfl⟩ := ha; exact .refl _ _
  | makeFunc fn first captured => simp only [aop, Option.some.injEq, Prod.mk.injEq] at ha; obtain ⟨rfl, rfl⟩ := ha; exact .refl _ _
  | call c =>
    obtain ⟨callee, args, tys⟩ := c
    cases callee with
    | builtin b =>
      simp only [aop] at ha
      simp only [wOp]
      generalize List.map ρ args.toList = as at *
      unfold aBuiltin at ha
      split at ha
      · obtain ⟨v0, hv, he⟩ := Option.map_eq_some_iff.1 ha; cases he; exact .refl _ _
      · exact aAppend_abs ha
      · split at ha
        · simp only [wBuiltin]
          unfold aCopy at ha
          obtain ⟨e, he, h1a⟩ := Option.bind_eq_some_iff.1 ha
          obtain ⟨ti, hti, h2a⟩ := Option.bind_eq_some_iff.1 h1a
          split at h2a
          · split at h2a
            · cases h2a; exact .refl _ _
            · rename_i h0
              obtain ⟨cs, _, h3a⟩ := Option.bind_eq_some_iff.1 h2a
              split at h3a
              · obtain ⟨h2, hset, h4⟩ := Option.map_eq_some_iff.1 h3a
                cases h4
                simp only [wCopy, if_neg h0]; exact .hset hset
              · cases h3a
          · cases h2a; exact .refl _ _
          · cases h2a; exact .refl _ _
          · cases h2a
        · cases ha
      · simp only [wBuiltin]
        unfold aClear at ha
        obtain ⟨e, he, h1a⟩ := Option.bind_eq_some_iff.1 ha
        obtain ⟨ti, hti, h2a⟩ := Option.bind_eq_some_iff.1 h1a
        split at h2a
        · split at h2a
          · cases h2a; exact .refl _ _
          · rename_i h0
            split at h2a
            · obtain ⟨h2, hset, h4⟩ := Option.map_eq_some_iff.1 h2a
              cases h4
              simp only [wClear, if_neg h0]; exact .hset hset
            · cases h2a
        · cases h2a; exact .refl _ _
        · cases h2a
      · split at ha
        · cases ha; exact .refl _ _
        · cases ha
      · split at ha
        · cases ha; exact .refl _ _
        · cases ha
      · cases ha
    | _ => simp [aop] at ha
  | _ => first
    | (simp only [aop] at ha; obtain ⟨v0, hv, he⟩ := Option.map_eq_some_iff.1 ha; cases he; exact .refl _ _)
    | (simp [aop] at ha; done)

theorem AW_len {ops : List Oper} {K : List Value → AHeap → Prop} : ∀ (l : List Oper) (fr : List Value) (h : AHeap), AW P ops l fr h K → ∃ fr' h', K fr' h' ∧ h.length ≤ h'.length := by
  intro l
  induction l with
  | nil => intro fr h hk; exact ⟨fr, h, hk, Nat.le_refl _⟩
  | cons o r ih =>
    intro fr h hw
    unfold AW at hw
    split at hw
    · exact ih _ _ hw
    · split at hw
      · obtain ⟨v, h', hac, hr⟩ := hw
        obtain ⟨fr', h2, k1, k2⟩ := ih _ _ hr
        exact ⟨fr', h2, k1, Nat.le_trans hac.2.1 k2⟩
      · split at hw
        · rename_i v h' hop
          obtain ⟨fr', h2, k1, k2⟩ := ih _ _ hw
          exact ⟨fr', h2, k1, Nat.le_trans (aop_abs hop).len k2⟩
        · exact hw.elim
    · exact hw.elim

theorem guard_ok {ι : Inj} {ops : Array Oper} {fr : List Value} {a : Act} {o : Oper} {b : Bool} (ha : awant ops.toList fr o = some b) (hv : VRL P ι fr a.tmps.toList) :
    Region.wanted o (yielded ops a.tmps) = b := by
  refine awant_ok (P := P) (ι := ι) ha fun j want hg d hd => ⟨fun x hx => ?_, fun hx => ?_⟩
  · obtain ⟨y, hy, hvy⟩ := hv.get d hx
    exact ⟨y, by simpa using hy, hvy⟩
  · have h1 : fr.length ≤ d := by simpa using hx
    have h2 : fr.length = a.tmps.size := hv.1.trans Array.length_toList
    exact Array.getElem?_eq_none (by rw [← h2]; exact h1)

variable {base : Nat}
/-- One operation, in a state. -/
theorem op_step {ι : Inj} {o : Oper} {fr : List Value} {h h' : AHeap} {a : Act} {w : World} {v : Value} (hr : Rel P base ι fr h a w) (hop : aop P o.op (ev fr) h = some (v, h')) (hf : Free ι h.length h'.length) :
    ∃ n v' w' ι', (execOp a.eval o).run P w = .ok n w' ∧ (n = .value v' ∨ (n = .skip ∧ v' = undef)) ∧ Rel P base ι' (aput fr o.dst v) h' (a.put o.dst v') w' ∧ Upd ι ι' h h' w w' := by
  obtain ⟨n, v', w', ι', h1, h2, h3, h4⟩ := aop_ok (base := base) o (ev fr) a.eval hop (fun x _ => ev_ok hr.tmps x) hr.inv hf (fun k _ ob l h1 h2 => hr.hr.obj k ob l h1 h2)
  exact ⟨n, v', w', ι', h1, h2, ⟨h4.inv, aput_ok (hr.tmps.mono (h4.sub hf)) o.dst h3, h4.hr hr.inv hf hr.hr, by
    have := hr.defers
    cases hd : o.dst <;> simpa [Act.put] using this⟩, h4.upd⟩

theorem AW_sound {ops : Array Oper} {K : List Value → AHeap → Prop} {Q : Exit → Act → World → Prop} {N : Nat} (hN : ∀ fr h, K fr h → h.length ≤ N) :
    ∀ (l : List Oper) (fr : List Value) (h : AHeap), AW P ops.toList l fr h K → ∀ (ι : Inj) (a : Act) (w : World), Rel P base ι fr h a w → Free ι h.length N →
      (∀ fr' h' ι' a' w', K fr' h' → Rel P base ι' fr' h' a' w' → Upd ι ι' h h' w w' → Q .normal a' w') → wpList P ops Q l a w := by
  intro l
  induction l with
  | nil => intro fr h hk ι a w hr hf hQ; exact hQ fr h ι a w hk hr (.refl _ _ _)
  | cons o r ih =>
    intro fr h hw ι a w hr hf hQ
    unfold AW at hw
    refine wpList_step fun K' hK' => ?_
    split at hw
    · rename_i hwant
      rw [guard_ok hwant hr.tmps]
      simp only [Bool.false_eq_true, if_false]
      refine hK' _ _ (ih _ _ hw ι _ w ⟨hr.inv, aput_ok hr.tmps o.dst VR.undef, hr.hr, by have := hr.defers; cases hd : o.dst <;> simpa [Act.put] using this⟩ hf hQ)
    · rename_i hwant
      rw [guard_ok hwant hr.tmps]
      simp only [if_true]
      split at hw
      · rename_i f args hcall
        obtain ⟨v, h', hac, hrest⟩ := hw
        obtain ⟨args', h1, h2⟩ := call_run hcall (fun x _ => ev_ok hr.tmps x) hac.1 w
        obtain ⟨fr2, h2', k1, k2⟩ := AW_len r _ _ hrest
        have hlen : h'.length ≤ N := Nat.le_trans k2 (hN _ _ k1)
        have hfree : Free ι h.length h'.length := fun k j1 j2 => hf k j1 (by omega)
        unfold Oper.wp
        rw [h1, Oper.upon_enter]
        refine (hac.2.2 base ι args' w hr.inv hfree h2 hr.hr).mono ?_
        rintro e w' ⟨v', ι', rfl, hv, hi', hr', hu⟩
        have hs := hu.sub hfree
        refine hK' _ _ (ih _ _ hrest ι' _ w' ⟨hi', aput_ok (hr.tmps.mono hs) o.dst hv, hr', by have := hr.defers; cases hd : o.dst <;> simpa [Act.put] using this⟩ (hu.free hf) fun fr' h3 ι3 a3 w3 q1 q2 q3 => hQ fr' h3 ι3 a3 w3 q1 q2 (hu.trans q3))
      · rename_i hcall
        split at hw
        · rename_i v h' hop
          obtain ⟨fr2, h2', k1, k2⟩ := AW_len r _ _ hw
          have hlen : h'.length ≤ N := Nat.le_trans k2 (hN _ _ k1)
          obtain ⟨n, v', w', ι', h1, h2, h3, hu⟩ := op_step hr hop (fun k j1 j2 => hf k j1 (by omega))
          have goal := ih _ _ hw ι' _ w' h3 (hu.free hf) fun fr' h3 ι3 a3 w3 q1 q2 q3 => hQ fr' h3 ι3 a3 w3 q1 q2 (hu.trans q3)
          unfold Oper.wp
          rw [h1]
          rcases h2 with rfl | ⟨rfl, rfl⟩
          · rw [Oper.upon_value]; exact hK' _ _ goal
          · rw [Oper.upon_skip]; exact hK' _ _ goal
        · exact hw.elim
    · exact hw.elim
end
end Go.AM

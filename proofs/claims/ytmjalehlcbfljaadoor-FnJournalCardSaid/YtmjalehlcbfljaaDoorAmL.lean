/- A part of the abstract machine's laws: steps, calls and loops over abstract heaps. -/
import Derived.Test.YtmjalehlcbfljaaDoorAmF2
set_option linter.unusedSectionVars false
set_option linter.defProp false
set_option linter.unusedVariables false
set_option linter.unusedSimpArgs false
set_option linter.unnecessarySimpa false
namespace Go.AM
open Go
variable [Ground]

/-! ### which operations stand before which -/
def maskF (acc : List Nat) (s : Nat) (e : Edge) : Nat := if Region.binds .any e = true then s ||| 2 ^ e.on ||| acc.getD e.on 0 else s
def maskOf (o : Oper) (acc : List Nat) : Nat := o.after.toList.foldl (maskF acc) 0
def befs : List Oper → List Nat → List Nat
  | [], acc => acc
  | o :: r, acc => befs r (acc ++ [maskOf o acc])
def ordb (b : List Nat) (i j : Nat) : Bool := (b.getD j 0).testBit i
def namesOf (ops : List Oper) (o : Oper) : List Nat :=
  o.dst.toList ++ (o.op.operands.toList.filterMap fun | .tmp t => some t | _ => none) ++
  (match o.guard with
   | some (g, _) => ((ops[g]?).bind (·.dst)).toList
   | none => [])
def dstIn (ops : List Oper) (a b : Oper) : Bool := match a.dst with | some d => (namesOf ops b).contains d | none => false
/-- The look at a region whose order is drawn: what is behind, and the slots. -/
def chk (ops : List Oper) : Bool :=
  let b := befs ops []
  (List.range ops.length).all fun j => match ops[j]? with
    | none => true
    | some oj => (oj.after.toList.all fun e => !Region.binds .any e || decide (e.on < j)) &&
      (List.range j).all fun i => match ops[i]? with
        | none => true
        | some oi => ordb b i j || !(dstIn ops oi oj || dstIn ops oj oi)

theorem maskF_spec (acc : List Nat) (i : Nat) : ∀ (es : List Edge) (s : Nat), (es.foldl (maskF acc) s).testBit i = true → s.testBit i = true ∨ ∃ e ∈ es, Region.binds .any e = true ∧ (e.on = i ∨ (acc.getD e.on 0).testBit i = true) := by
  intro es
  induction es with
  | nil => intro s h; exact .inl h
  | cons e r ih =>
    intro s h
    rcases ih _ h with h1 | ⟨e', he', h2⟩
    · unfold maskF at h1
      split at h1
      · rename_i hb
        simp only [Nat.testBit_or, Bool.or_eq_true, Nat.testBit_two_pow, decide_eq_true_eq] at h1
        rcases h1 with (h1 | h1) | h1
        · exact .inl h1
        · exact .inr ⟨e, by simp, hb, .inl h1⟩
        · exact .inr ⟨e, by simp, hb, .inr h1⟩
      · exact .inl h1
    · exact .inr ⟨e', by simp [he'], h2⟩

theorem befs_spec : ∀ (ops : List Oper) (acc : List Nat), ∃ t, befs ops acc = acc ++ t ∧ t.length = ops.length ∧ ∀ (j : Nat) o, ops[j]? = some o → t[j]? = some (maskOf o (acc ++ t.take j)) := by
  intro ops
  induction ops with
  | nil => intro acc; exact ⟨[], by simp [befs], rfl, by simp⟩
  | cons o r ih =>
    intro acc
    obtain ⟨t, h1, h2, h3⟩ := ih (acc ++ [maskOf o acc])
    refine ⟨maskOf o acc :: t, by simp [befs, h1], by simp [h2], fun j o' hj => ?_⟩
    cases j with
    | zero => simp at hj; subst hj; simp
    | succ j =>
      simp at hj
      have := h3 j o' hj
      simpa using this

theorem ordb_spec {ops : List Oper} {i j : Nat} (h : ordb (befs ops []) i j = true) : ∃ o, ops[j]? = some o ∧ ∃ e ∈ o.after.toList, Region.binds .any e = true ∧ (e.on = i ∨ (e.on < j ∧ ordb (befs ops []) i e.on = true)) := by
  obtain ⟨t, h1, h2, h3⟩ := befs_spec ops []
  unfold ordb at h
  rw [h1, List.nil_append] at h
  by_cases hj : j < ops.length
  · refine ⟨ops[j], by simp [hj], ?_⟩
    have ht := h3 j ops[j] (by simp [hj])
    rw [List.nil_append] at ht
    rw [List.getD_eq_getElem?_getD, ht] at h
    simp only [Option.getD_some, maskOf] at h
    rcases maskF_spec _ i _ _ h with h4 | ⟨e, he, hb, h5⟩
    · simp at h4
    · refine ⟨e, he, hb, ?_⟩
      rcases h5 with h5 | h5
      · exact .inl h5
      · right
        by_cases hlt : e.on < j
        · refine ⟨hlt, ?_⟩
          unfold ordb
          rw [h1, List.nil_append]
          rw [List.getD_eq_getElem?_getD, List.getElem?_take, if_pos hlt] at h5
          rw [List.getD_eq_getElem?_getD]; exact h5
        · rw [List.getD_eq_getElem?_getD, List.getElem?_take, if_neg hlt] at h5
          simp at h5
  · exfalso
    rw [List.getD_eq_getElem?_getD, List.getElem?_eq_none (by omega)] at h
    simp at h

/-- What has been carried out is closed under 'before'. -/
theorem ordb_closed {ops : List Oper} {D : Nat → Prop} (hD : ∀ j o, D j → ops[j]? = some o → ∀ e ∈ o.after.toList, Region.binds .any e = true → D e.on) :
    ∀ (j i : Nat), D j → ordb (befs ops []) i j = true → D i := by
  intro j
  induction j using Nat.strongRecOn with
  | _ j ih =>
    intro i hj h
    obtain ⟨o, ho, e, he, hb, h1⟩ := ordb_spec h
    have hde := hD j o hj ho e he hb
    rcases h1 with rfl | ⟨hlt, h2⟩
    · exact hde
    · exact ih e.on hlt i hde h2

/-! ### the trace -/
/-- Two steps that may change places do not meet. -/
def Dis (T W T' W' : List Nat) : Prop := (∀ k ∈ W, k ∉ T') ∧ ∀ k ∈ W', k ∉ T
def dsj (b : List Nat) : List (Nat × List Nat × List Nat) → Nat → List Nat → List Nat → Prop
  | [], _, _, _ => True
  | x :: r, j, T, W => (ordb b x.1 j = true ∨ Dis x.2.1 x.2.2 T W) ∧ dsj b r j T W
/-- The heap behind a call that saw g in place of h. -/
def mg (g h g' : AHeap) : AHeap := (h.mapIdx fun k o => if (g.getD k dead).w = true then g'.getD k o else o) ++ g'.drop h.length
/-- What a call at g sees, and what it writes to. -/
structure CallTW (n0 : Nat) (g g' : AHeap) (T W : List Nat) : Prop where
  live : ∀ (k : Nat) o, g[k]? = some o → o.live → k ∈ T
  wr : ∀ (k : Nat), k ∈ W ↔ ∃ o, g[k]? = some o ∧ o.w = true
  still : ∀ (k : Nat) o, g[k]? = some o → o.w = true → ∃ o', g'[k]? = some o' ∧ o'.w = true
  old : ∀ k ∈ W, k < n0

def ADW (P : Program) (ops : List Oper) (n0 : Nat) : Nat → List (Nat × List Nat × List Nat) → List Oper → List Value → AHeap → (List Value → AHeap → Prop) → Prop
  | _, _, [], fr, h, K => K fr h
  | j, acc, o :: r, fr, h, K => match awant ops fr o with
    | some false => ADW P ops n0 (j + 1) ((j, [], []) :: acc) r (aput fr o.dst undef) h K
    | some true => match callOf o (ev fr) with
      | some (f, args) => ∃ g v g' T W, HLe g h ∧ AC P f args g v g' ∧ CallTW n0 g g' T W ∧ dsj (befs ops []) acc j T W ∧ ADW P ops n0 (j + 1) ((j, T, W) :: acc) r (aput fr o.dst v) (mg g h g') K
      | none => match aop P o.op (ev fr) h with
        | some (v, h') => dsj (befs ops []) acc j (tOp o.op (ev fr)) (wOp o.op (ev fr)) ∧ ADW P ops n0 (j + 1) ((j, tOp o.op (ev fr), wOp o.op (ev fr)) :: acc) r (aput fr o.dst v) h' K
        | none => False
    | none => False

def StepT (P : Program) (ops : List Oper) (n0 : Nat) (o : Oper) (fr : List Value) (h : AHeap) (v : Value) (h' : AHeap) (T W : List Nat) : Prop :=
  (awant ops fr o = some false ∧ v = undef ∧ h' = h ∧ T = [] ∧ W = []) ∨
  (awant ops fr o = some true ∧ ((∃ f args g g', callOf o (ev fr) = some (f, args) ∧ HLe g h ∧ AC P f args g v g' ∧ CallTW n0 g g' T W ∧ h' = mg g h g') ∨
    (callOf o (ev fr) = none ∧ aop P o.op (ev fr) h = some (v, h') ∧ T = tOp o.op (ev fr) ∧ W = wOp o.op (ev fr))))

structure Trace (P : Program) (ops : List Oper) (n0 : Nat) (l : List Oper) (F : Nat → List Value) (H : Nat → AHeap) (V : Nat → Value) (T W : Nat → List Nat) : Prop where
  step : ∀ (i : Nat) o, l[i]? = some o → StepT P ops n0 o (F i) (H i) (V i) (H (i + 1)) (T i) (W i)
  fr : ∀ (i : Nat) o, l[i]? = some o → F (i + 1) = aput (F i) o.dst (V i)

theorem dsj_mem {b : List Nat} {j : Nat} {T W : List Nat} : ∀ (acc : List (Nat × List Nat × List Nat)), dsj b acc j T W → ∀ x ∈ acc, ordb b x.1 j = true ∨ Dis x.2.1 x.2.2 T W := by
  intro acc
  induction acc with
  | nil => intro _ x hx; cases hx
  | cons y r ih =>
    intro h x hx
    rcases List.mem_cons.1 hx with rfl | hx
    · exact h.1
    · exact ih h.2 x hx

theorem ADW_trace {P : Program} {ops : List Oper} {n0 : Nat} {K : List Value → AHeap → Prop} : ∀ (l : List Oper) (j : Nat) (acc : List (Nat × List Nat × List Nat)) (fr : List Value) (h : AHeap), ADW P ops n0 j acc l fr h K →
    ∃ F H V T W, F 0 = fr ∧ H 0 = h ∧ Trace P ops n0 l F H V T W ∧ K (F l.length) (H l.length) ∧
      (∀ i, i < l.length → ∀ x ∈ acc, ordb (befs ops []) x.1 (j + i) = true ∨ Dis x.2.1 x.2.2 (T i) (W i)) ∧
      (∀ i i', i < i' → i' < l.length → ordb (befs ops []) (j + i) (j + i') = true ∨ Dis (T i) (W i) (T i') (W i')) := by
  intro l
  induction l with
  | nil => intro j acc fr h hk; exact ⟨fun _ => fr, fun _ => h, fun _ => undef, fun _ => [], fun _ => [], rfl, rfl, ⟨by simp, by simp⟩, hk, by simp, by simp⟩
  | cons o r ih =>
    intro j acc fr h hw
    have key : ∀ (v : Value) (h' : AHeap) (T0 W0 : List Nat), StepT P ops n0 o fr h v h' T0 W0 → dsj (befs ops []) acc j T0 W0 → ADW P ops n0 (j + 1) ((j, T0, W0) :: acc) r (aput fr o.dst v) h' K →
        ∃ F H V T W, F 0 = fr ∧ H 0 = h ∧ Trace P ops n0 (o :: r) F H V T W ∧ K (F (o :: r).length) (H (o :: r).length) ∧
          (∀ i, i < (o :: r).length → ∀ x ∈ acc, ordb (befs ops []) x.1 (j + i) = true ∨ Dis x.2.1 x.2.2 (T i) (W i)) ∧
          (∀ i i', i < i' → i' < (o :: r).length → ordb (befs ops []) (j + i) (j + i') = true ∨ Dis (T i) (W i) (T i') (W i')) := by
      intro v h' T0 W0 hst hd hr
      obtain ⟨F, H, V, T, W, h1, h2, h3, h4, h5, h6⟩ := ih _ _ _ _ hr
      refine ⟨fun i => match i with | 0 => fr | i + 1 => F i, fun i => match i with | 0 => h | i + 1 => H i, fun i => match i with | 0 => v | i + 1 => V i, fun i => match i with | 0 => T0 | i + 1 => T i, fun i => match i with | 0 => W0 | i + 1 => W i,
        rfl, rfl, ⟨fun i o' hi => ?_, fun i o' hi => ?_⟩, h4, fun i hi x hx => ?_, fun i i' hii hi' => ?_⟩
      · cases i with
        | zero => simp at hi; subst hi; show StepT P ops n0 o fr h v (H 0) T0 W0; rw [h2]; exact hst
        | succ i => exact h3.step i o' (by simpa using hi)
      · cases i with
        | zero => simp at hi; subst hi; exact h1
        | succ i => exact h3.fr i o' (by simpa using hi)
      · cases i with
        | zero => exact dsj_mem acc hd x hx
        | succ i =>
          have := h5 i (by simpa using hi) x (by simp [hx])
          rw [show j + 1 + i = j + (i + 1) by omega] at this
          exact this
      · cases i' with
        | zero => omega
        | succ i' =>
          cases i with
          | zero =>
            have := h5 i' (by simpa using hi') (j, T0, W0) (by simp)
            rw [show j + 1 + i' = j + (i' + 1) by omega] at this
            exact this
          | succ i =>
            have := h6 i i' (by omega) (by simpa using hi')
            rw [show j + 1 + i = j + (i + 1) by omega, show j + 1 + i' = j + (i' + 1) by omega] at this
            exact this
    unfold ADW at hw
    split at hw
    · rename_i hwant; exact key _ _ [] [] (.inl ⟨hwant, rfl, rfl, rfl, rfl⟩) (by
        have : ∀ acc : List (Nat × List Nat × List Nat), dsj (befs ops []) acc j [] [] := by
          intro acc
          induction acc with
          | nil => trivial
          | cons x r ih => exact ⟨.inr ⟨by simp, by simp⟩, ih⟩
        exact this acc) hw
    · rename_i hwant
      split at hw
      · rename_i f args hcall
        obtain ⟨g, v, g', T0, W0, hle, hac, htw, hd, hr⟩ := hw
        exact key _ _ T0 W0 (.inr ⟨hwant, .inl ⟨f, args, g, g', hcall, hle, hac, htw, rfl⟩⟩) hd hr
      · rename_i hcall
        split at hw
        · rename_i v h' hop
          exact key _ _ _ _ (.inr ⟨hwant, .inr ⟨hcall, hop, rfl, rfl⟩⟩) hw.1 hw.2
        · exact hw.elim
    · exact hw.elim

theorem wAppend_sub (s x : Value) (k : Nat) (h : k ∈ wAppend s x) : k ∈ idOf s := by
  unfold wAppend at h
  split at h
  · split at h
    · cases h
    · split at h
      · simpa [idOf] using h
      · cases h
  · split at h
    · cases h
    · split at h
      · simpa [idOf] using h
      · cases h
  · cases h
theorem wCopy_sub (s x : Value) (k : Nat) (h : k ∈ wCopy s x) : k ∈ idOf s := by
  unfold wCopy at h
  split at h
  · split at h
    · cases h
    · simpa [idOf] using h
  · cases h
theorem wClear_sub (s : Value) (k : Nat) (h : k ∈ wClear s) : k ∈ idOf s := by
  unfold wClear at h
  split at h
  · split at h
    · cases h
    · simpa [idOf] using h
  · cases h

theorem wOp_sub {op : Op} {ρ : Operand → Value} {k : Nat} (h : k ∈ wOp op ρ) : k ∈ tOp op ρ := by
  unfold wOp at h
  split at h
  · exact h
  · rename_i b args tys
    unfold wBuiltin at h
    split at h
    · rename_i s x hx
      simp only [tOp, List.mem_flatMap]
      have h1 := wAppend_sub _ _ _ h
      obtain ⟨y, hy, rfl⟩ : ∃ y ∈ args.toList, ρ y = s := by
        have : s ∈ args.toList.map ρ := by rw [hx]; simp
        simpa using this
      exact ⟨y, hy, h1⟩
    · rename_i s x hx
      simp only [tOp, List.mem_flatMap]
      have h1 := wCopy_sub _ _ _ h
      obtain ⟨y, hy, rfl⟩ : ∃ y ∈ args.toList, ρ y = s := by
        have : s ∈ args.toList.map ρ := by rw [hx]; simp
        simpa using this
      exact ⟨y, hy, h1⟩
    · rename_i s hx
      simp only [tOp, List.mem_flatMap]
      have h1 := wClear_sub _ _ h
      obtain ⟨y, hy, rfl⟩ : ∃ y ∈ args.toList, ρ y = s := by
        have : s ∈ args.toList.map ρ := by rw [hx]; simp
        simpa using this
      exact ⟨y, hy, h1⟩
    · cases h
  · cases h
theorem mg_len (g h g' : AHeap) : h.length ≤ (mg g h g').length := by simp [mg]
theorem mg_length (g h g' : AHeap) (hl : h.length ≤ g'.length) : (mg g h g').length = g'.length := by simp [mg]; omega
theorem mg_get (g h g' : AHeap) (k : Nat) (hk : k < h.length) : (mg g h g')[k]? = some (if (g.getD k dead).w = true then g'.getD k h[k] else h[k]) := by
  unfold mg
  rw [List.getElem?_append_left (by simpa using hk)]
  simp [hk]
theorem mg_new (g h g' : AHeap) (k : Nat) (hk : h.length ≤ k) : (mg g h g')[k]? = g'[k]? := by
  unfold mg
  rw [List.getElem?_append_right (by simpa using hk)]
  simp [show h.length + (k - h.length) = k by omega]

theorem StepT.abs {P : Program} {ops : List Oper} {n0 : Nat} {o : Oper} {fr : List Value} {h h' : AHeap} {v : Value} {T W : List Nat} (s : StepT P ops n0 o fr h v h' T W) : Abs W h h' := by
  rcases s with ⟨h1, _, rfl, _, rfl⟩ | ⟨h1, ⟨f, args, g, g', h2, hle, h3, tw, rfl⟩ | ⟨h2, h3, _, rfl⟩⟩
  · exact .refl _ _
  · refine ⟨mg_len _ _ _, fun k hk hne => ?_, fun k o' hk ho hw => ?_⟩
    · rw [mg_get _ _ _ k hk, if_neg, List.getElem?_eq_getElem hk]
      intro hw
      have hgk : k < g.length := by rw [hle.len]; exact hk
      exact hne ((tw.wr k).2 ⟨g[k], by simp [hgk], by simpa [List.getD_eq_getElem?_getD, hgk] using hw⟩)
    · rw [mg_get _ _ _ k hk] at ho
      split at ho
      · rename_i hgw
        have hgk : k < g.length := by rw [hle.len]; exact hk
        have hgw' : (g[k]).w = true := by simpa [List.getD_eq_getElem?_getD, hgk] using hgw
        exact ⟨h[k], by simp [hk], (hle.obj k g[k] h[k] (by simp [hgk]) (by simp [hk])).2.1 hgw'⟩
      · cases ho; exact ⟨h[k], by simp [hk], hw⟩
  · exact aop_abs h3
theorem StepT.sub {P : Program} {ops : List Oper} {n0 : Nat} {o : Oper} {fr : List Value} {h h' : AHeap} {v : Value} {T W : List Nat} (s : StepT P ops n0 o fr h v h' T W) {k : Nat} (hk : k ∈ W) : k ∈ T := by
  rcases s with ⟨h1, _, rfl, _, rfl⟩ | ⟨h1, ⟨f, args, g, g', h2, hle, h3, tw, rfl⟩ | ⟨h2, h3, rfl, rfl⟩⟩
  · cases hk
  · obtain ⟨o, h4, h5⟩ := (tw.wr k).1 hk; exact tw.live k o h4 (.inl h5)
  · exact wOp_sub hk
end Go.AM

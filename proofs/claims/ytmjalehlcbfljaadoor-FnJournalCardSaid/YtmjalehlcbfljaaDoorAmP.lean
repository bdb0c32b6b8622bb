/- A part of the abstract machine's laws: steps, calls and loops over abstract heaps. -/
import Derived.Test.YtmjalehlcbfljaaDoorAmO
set_option linter.unusedSectionVars false
set_option linter.defProp false
set_option linter.unusedVariables false
set_option linter.unusedSimpArgs false
set_option linter.unnecessarySimpa false
namespace Go.AM
open Go
variable [Ground]

section
variable {P : Program} {base n0 : Nat} {ops : Array Oper} {F : Nat → List Value} {H : Nat → AHeap} {V : Nat → Value} {T W : Nat → List Nat}

theorem names_op {o : Oper} {t : Nat} (h : Operand.tmp t ∈ o.op.operands.toList) : t ∈ namesOf ops.toList o := by
  unfold namesOf
  simp only [List.mem_append, List.mem_filterMap]
  exact .inl (.inr ⟨.tmp t, h, rfl⟩)
theorem names_guard {o : Oper} {j : Nat} {want : Bool} {d : Nat} (hg : o.guard = some (j, want)) (hd : ((ops[j]?).bind (·.dst)) = some d) : d ∈ namesOf ops.toList o := by
  unfold namesOf
  rw [hg]
  simp [hd]

/-- Step j can be carried out. -/
theorem J.step (Z : Trace P ops.toList n0 ops.toList F H V T W) {ι0 : Inj} {w0 : World} {D : Nat → Prop} {ι : Inj} {a : Act} {w : World} (hJ : J P base ops F H V W ι0 w0 D ι a w) (hg : Good ops T W) (hn0 : n0 = (H 0).length)
    (hD : ∀ i o, D i → ops[i]? = some o → ∀ e ∈ o.after.toList, Region.binds .any e = true → D e.on) {j : Nat} (hjl : j < ops.size) (hnj : ¬ D j)
    (hp : ∀ e ∈ (ops[j]).after.toList, Region.binds .any e = true → D e.on) (hDn : ∀ i, D i → i < ops.size) {Q : Exit → Act → World → Prop} {K : Act → World → Prop}
    (hK : ∀ ι' a' w', J P base ops F H V W ι0 w0 (fun i => D i ∨ i = j) ι' a' w' → K a' w') : wpOp P ops Q j K a w := by
  have hj : ops[j]? = some ops[j] := by simp [hjl]
  have l0 := tr_le Z 0 j (by omega) (by omega)
  have l1 := tr_len Z j hjl
  have l2 := tr_le Z (j + 1) ops.size (by omega) (Nat.le_refl _)
  have hf : Free ι (H j).length (H (j + 1)).length := by
    intro k h1 h2
    cases hι : ι k with
    | none => rfl
    | some l =>
      exfalso
      obtain ⟨i, hi, h3, h4⟩ := hJ.dom k (by omega) (by omega) (by rw [hι]; simp)
      rcases Nat.lt_trichotomy i j with h | h | h
      · have := tr_le Z (i + 1) j (by omega) (by omega); omega
      · exact hnj (h ▸ hi)
      · have := tr_le Z (j + 1) i (by omega) (Nat.le_of_lt (hDn i hi)); omega
  have hop : ∀ x ∈ (ops[j]).op.operands.toList, VR P ι (ev (F j) x) (a.eval x) := by
    intro x hx
    cases x with
    | tmp t =>
      simp only [ev, Act.eval]
      rw [List.getD_eq_getElem?_getD, Array.getD_eq_getD_getElem?]
      cases hft : (F j)[t]? with
      | some u =>
        obtain ⟨y, hy, hvy⟩ := hJ.slot Z hg.chk hD hj hnj hp (names_op hx) u hft
        rw [hy]; exact hvy
      | none =>
        have h1 : (F j).length ≤ t := by simpa using hft
        rw [tr_flen Z j (by omega), hJ.size] at h1
        rw [Array.getElem?_eq_none h1]
        exact VR.undef
    | const v =>
      simp only [ev, Act.eval]
      split
      · rename_i hc; exact VR.closed hc
      · exact .junk _
    | global g => exact .junk _
    | func f => exact .func _ _ _ _ _ rfl (by simp) rfl (by simp)
  have hwant : ∀ b, awant ops.toList (F j) ops[j] = some b → Region.wanted ops[j] (yielded ops a.tmps) = b := by
    intro b hb
    refine awant_ok (P := P) (ι := ι) hb fun i want hgd d hd => ⟨fun x hx => hJ.slot Z hg.chk hD hj hnj hp (names_guard hgd hd) x hx, fun hx => ?_⟩
    have h1 : (F j).length ≤ d := by simpa using hx
    rw [tr_flen Z j (by omega), hJ.size] at h1
    exact Array.getElem?_eq_none h1
  have hlook : ∀ k o l, k ∈ T j → (H j)[k]? = some o → ι k = some l → ObjOK P ι o l w := fun k o l h1 h2 h3 =>
    hJ.heap k o l (hJ.look Z hg hD hj hnj hp hDn h1 h2 h3) h3
  have hst := Z.step j ops[j] (by simp [hjl])
  unfold wpOp
  rw [hj]
  simp only []
  rcases hst with ⟨h1, h2, h3, h4, h5⟩ | ⟨h1, ⟨f, args, g, g', h2, hle, h3, tw, h4⟩ | ⟨h2, h3, h4, h5⟩⟩
  · rw [hwant _ h1]
    simp only [Bool.false_eq_true, if_false]
    refine hK ι _ w (hJ.next Z hg hD hj hnj hp hDn (by rw [h5]; simp) ?_ ?_ hf)
    · rw [h5, h3]; exact (Post.refl hJ.inv).p2
    · rw [h2]; exact VR.undef
  · rw [hwant _ h1]
    simp only [if_true]
    left
    obtain ⟨args', k1, k2⟩ := call_run h2 hop h3.1 w
    unfold Oper.wp
    rw [k1, Oper.upon_enter]
    have hhr : HR P ι g w := by
      have at0 : ∀ (k : Nat) o, g[k]? = some o → ∃ o0, (H j)[k]? = some o0 := fun k o hk => hle.at hk
      have weak : ∀ (k : Nat) o o0 l, g[k]? = some o → (H j)[k]? = some o0 → ObjOK P ι o0 l w → ObjOK P ι o l w := by
        intro k o o0 l hk h0 hob
        obtain ⟨e1, e2, e3⟩ := hle.obj k o o0 hk h0
        have hcl : o.cells.length ≤ o0.cells.length := by
          rcases Nat.lt_or_ge o0.cells.length o.cells.length with h | h
          · exfalso
            rcases e3 o0.cells.length o.cells[o0.cells.length] (by simp [h]) with ⟨_, h'⟩ | h'
            · omega
            · simp at h'
          · exact h
        refine ⟨fun hw => ?_, fun i v hv => ?_⟩
        · obtain ⟨a1, a2, cs, a3, a4, a5⟩ := hob.own (e2 hw)
          exact ⟨a1, e1 ▸ a2, cs, e1 ▸ a3, by omega, a5⟩
        · rcases e3 i v hv with ⟨rfl, hlt⟩ | h'
          · obtain ⟨v', h1, _⟩ := hob.cells i o0.cells[i] (by simp [hlt])
            exact ⟨v', h1, .junk _⟩
          · exact hob.cells i v h'
      refine ⟨fun k o l hk hl => ?_, fun x y ox oy l m hne hx hy hw hlv hl hm => ?_⟩
      · obtain ⟨o0, h0⟩ := at0 k o hk
        by_cases hlv : o.live
        · exact weak k o o0 l hk h0 (hlook k o0 l (tw.live k o hk hlv) h0 hl)
        · exact .dead hlv
      · obtain ⟨ox0, hx0⟩ := at0 x ox hx
        obtain ⟨oy0, hy0⟩ := at0 y oy hy
        have vx := hJ.look Z hg hD hj hnj hp hDn (tw.live x ox hx hlv) hx0 hl
        have vy := hJ.look Z hg hD hj hnj hp hDn (tw.live y oy hy (.inl hw)) hy0 hm
        refine hJ.apart x y ox0 oy0 l m hne vx vy ((hle.obj y oy oy0 hy hy0).2.1 hw) ?_ hl hm
        obtain ⟨e1, e2, e3⟩ := hle.obj x ox ox0 hx hx0
        rcases hlv with h | h
        · exact .inl (e2 h)
        · right
          intro e
          cases hc : ox.cells with
          | nil => exact h hc
          | cons z r =>
            rcases e3 0 z (by rw [hc]; rfl) with ⟨_, h'⟩ | h' <;> rw [e] at h' <;> simp at h'
    have hfg : Free ι g.length g'.length := by
      have := mg_length g (H j) g' (by have := h3.2.1; rw [hle.len] at this; exact this)
      rw [h4, this] at hf
      rw [hle.len]; exact hf
    refine (h3.2.2 base ι args' w hJ.inv hfg k2 hhr).mono ?_
    rintro e w' ⟨v', ι', rfl, hv, hi', hr', hu⟩
    refine hK ι' _ w' (hJ.next Z hg hD hj hnj hp hDn (fun k hk hk0 => by have := tw.old k hk; omega) ?_ hv hf)
    rw [h4]; exact Post2.call hle tw h3.2.1 hi' hr' hu
  · rw [hwant _ h1]
    simp only [if_true]
    left
    obtain ⟨n, v', w', ι', k1, k2, k3, k4⟩ := aop_ok (base := base) ops[j] (ev (F j)) a.eval h3 hop hJ.inv hf (fun k hk o l hk1 hk2 => hlook k o l (by rw [h4]; exact hk) hk1 hk2)
    have hWn : ∀ k ∈ W j, (H 0).length ≤ k → ι k ≠ none := by
      intro k hk _
      rw [h5] at hk
      obtain ⟨x, hx, hid⟩ := wOp_mem hk
      exact (hop x hx).idOf_some hid
    have goal := hK ι' (a.put (ops[j]).dst v') w' (hJ.next Z hg hD hj hnj hp hDn hWn (by rw [h5]; exact k4.p2) k3 hf)
    unfold Oper.wp
    rw [k1]
    rcases k2 with rfl | ⟨rfl, rfl⟩
    · rw [Oper.upon_value]; exact goal
    · rw [Oper.upon_skip]; exact goal

/-- All steps have been carried out. -/
theorem J.done (Z : Trace P ops.toList n0 ops.toList F H V T W) {ι0 : Inj} {w0 : World} {ι : Inj} {a : Act} {w : World} (hJ : J P base ops F H V W ι0 w0 (· < ops.size) ι a w) :
    Rel P base ι (F ops.size) (H ops.size) a w ∧ Upd ι0 ι (H 0) (H ops.size) w0 w := by
  have hvo : ∀ k o l, (H ops.size)[k]? = some o → ι k = some l → VO ops H W (· < ops.size) k o := fun k o l h1 h2 =>
    hJ.look' Z (fun _ h => h) (Nat.le_refl _) h1 h2 fun i hw => ⟨id, id⟩
  refine ⟨⟨hJ.inv, ⟨by rw [tr_flen Z _ (Nat.le_refl _), hJ.size]; simp, fun t x y hx hy => ?_⟩, ⟨fun k o l hk hl => hJ.heap k o l (hvo k o l hk hl) hl, fun x y ox oy l m hne hx hy hw hlv hl hm => hJ.apart x y ox oy l m hne (hvo x ox l hx hl) (hvo y oy m hy hm) hw hlv hl hm⟩, hJ.defers⟩,
    ⟨tr_le Z 0 _ (Nat.zero_le _) (Nat.le_refl _), hJ.out, fun k l h1 h2 h3 => ?_, fun k o' h1 h2 h3 => tr_wr Z k _ (Nat.le_refl _) h1 o' h2 h3, hJ.wsize, hJ.tape, hJ.os, hJ.output, fun b hb => ?_⟩⟩
  · have hy' : a.tmps[t]? = some y := by simpa using hy
    have htl : t < (F ops.size).length := (List.getElem?_eq_some_iff.1 hx).1
    rw [tr_flen Z _ (Nat.le_refl _)] at htl
    rcases tr_slot Z t ops.size (Nat.le_refl _) with ⟨i, hi, ho, hmax, hv⟩ | ⟨hno, hv⟩
    · rw [hv htl] at hx; cases hx
      exact hJ.tmp t i y hi ho (fun i' o' hi' => hmax i' o' hi') hy'
    · rw [hv] at hx
      exact hJ.tmp0 t x y (fun i o hi => hno i o hi) hx hy'
  · rcases hJ.new k l h1 h2 h3 with h | ⟨j, o, m, h4, h5, h6, h7⟩
    · exact .inl h
    · exact .inr ⟨j, o, m, h4, h5, h6, h7⟩
  · rcases hJ.block b hb with ⟨j, o, m, h4, h5, h6, h7⟩ | h
    · exact .inl ⟨j, o, m, h4, h5, h6, h7⟩
    · exact .inr h

theorem J.start {ι : Inj} {a : Act} {w : World} (hr : Rel P base ι (F 0) (H 0) a w) (hf : Free ι (H 0).length (H ops.size).length) : J P base ops F H V W ι w (fun _ => False) ι a w := by
  refine ⟨hr.inv, fun k h1 h2 h3 => (h3 (hf k h1 h2)).elim, fun _ _ => rfl, by simpa using hr.tmps.1, fun t j y hd => hd.elim, fun t x y _ hx hy => hr.tmps.2 t x y hx (by simpa using hy), ?_, ?_, hr.defers, fun k l h1 h2 h3 => ?_, Nat.le_refl _, rfl, rfl, rfl, fun _ _ => .inr rfl, fun _ _ hd => hd.elim⟩
  · rintro k o l ⟨s, hs, ho⟩ hl
    rcases hs with ⟨rfl, _, _⟩ | ⟨_, _, hd, _⟩
    · exact hr.hr.obj k o l ho hl
    · exact hd.elim
  · rintro x y ox oy l m hne ⟨s, hs, ho⟩ ⟨s', hs', ho'⟩ hw hlv hl hm
    rcases hs with ⟨rfl, _, _⟩ | ⟨_, _, hd, _⟩
    · rcases hs' with ⟨rfl, _, _⟩ | ⟨_, _, hd, _⟩
      · exact hr.hr.apart x y ox oy l m hne ho ho' hw hlv hl hm
      · exact hd.elim
    · exact hd.elim
  · rw [hf k h1 h2] at h3; cases h3

/-- With everything that binds behind, the next one is ready. -/
theorem ready_nil (hc : chk ops.toList = true) {listed : Array Bool} (hs : listed.size = ops.size) (h : Region.ready .any ops listed = []) : ∀ i, i < ops.size → listed[i]? = some true := by
  intro i
  induction i using Nat.strongRecOn with
  | _ i ih =>
    intro hi
    have h1 := (List.filter_eq_nil_iff.1 h) i (by simp [hi])
    have hli : i < listed.size := by omega
    cases hl : listed[i] with
    | true => simp [hli, hl]
    | false =>
      exfalso
      apply h1
      simp only [Array.getD_eq_getD_getElem?, hli, Array.getElem?_eq_getElem, hl, Option.getD_some, Bool.not_false, Bool.true_and, hi, Option.map_some, Array.all_eq_true']
      intro e he
      have hback := chk_fwd hc (j := i) (o := ops[i]) (by simp [hi]) e (by simpa using he)
      cases hb : Region.binds .any e with
      | false => simp
      | true =>
        have := ih e.on (hback hb) (by have := hback hb; omega)
        simp [this]

theorem J.any {ι0 : Inj} {w0 : World} (Z : Trace P ops.toList n0 ops.toList F H V T W) (hg : Good ops T W) (hn0 : n0 = (H 0).length) {Q : Exit → Act → World → Prop}
    (hQ : ∀ ι a w, Rel P base ι (F ops.size) (H ops.size) a w → Upd ι0 ι (H 0) (H ops.size) w0 w → Q .normal a w) :
    ∀ (fuel : Nat) (listed : Array Bool) (ι : Inj) (a : Act) (w : World), listed.size = ops.size → listed.count false ≤ fuel →
      (∀ (i : Nat) (o : Oper), listed[i]? = some true → ops[i]? = some o → ∀ e ∈ o.after.toList, Region.binds .any e = true → listed[e.on]? = some true) →
      J P base ops F H V W ι0 w0 (fun i => listed[i]? = some true) ι a w → wpAny P .any ops Q fuel listed a w := by
  intro fuel
  have fin : ∀ (listed : Array Bool) (ι : Inj) (a : Act) (w : World), listed.size = ops.size → J P base ops F H V W ι0 w0 (fun i => listed[i]? = some true) ι a w → Region.ready .any ops listed = [] → Q .normal a w := by
    intro listed ι a w hs hJ hr
    have hall := ready_nil hg.chk hs hr
    have : (fun i => listed[i]? = some true) = (· < ops.size) := by
      funext i
      refine propext ⟨fun h => ?_, hall i⟩
      have := (Array.getElem?_eq_some_iff.1 h).1; omega
    rw [this] at hJ
    obtain ⟨h1, h2⟩ := hJ.done Z
    exact hQ ι a w h1 h2
  induction fuel with
  | zero =>
    intro listed ι a w hs hcnt hcl hJ
    have hr : Region.ready .any ops listed = [] := by
      refine List.filter_eq_nil_iff.2 fun i hi => ?_
      have hi' : i < listed.size := by simp at hi; omega
      have : listed[i] = true := by
        cases hl : listed[i] with
        | true => rfl
        | false =>
          have h1 : 0 < listed.count false := Array.count_pos_iff.2 (hl ▸ Array.getElem_mem hi')
          omega
      simp [Array.getD_eq_getD_getElem?, hi', this]
    exact ⟨hr, fin listed ι a w hs hJ hr⟩
  | succ fuel ih =>
    intro listed ι a w hs hcnt hcl hJ
    refine ⟨fin listed ι a w hs hJ, fun i hi => ?_⟩
    unfold Region.ready at hi
    obtain ⟨h1, h2⟩ := List.mem_filter.1 hi
    have hil : i < ops.size := by simpa using h1
    have hli : i < listed.size := by omega
    simp only [Array.getD_eq_getD_getElem?, hli, Array.getElem?_eq_getElem, Option.getD_some, hil, Option.map_some, Bool.and_eq_true, Bool.not_eq_true', Array.all_eq_true', Bool.or_eq_true] at h2
    obtain ⟨hnl, hpre⟩ := h2
    have hp : ∀ e ∈ (ops[i]).after.toList, Region.binds .any e = true → listed[e.on]? = some true := by
      intro e he hb
      rcases hpre e (by simpa using he) with h | h
      · rw [hb] at h; cases h
      · cases hl : listed[e.on]? with
        | none => rw [hl] at h; cases h
        | some b => rw [hl] at h; simpa using h
    refine hJ.step Z hg hn0 hcl hil (by simp [hli, hnl]) hp (fun i h => by have := (Array.getElem?_eq_some_iff.1 h).1; omega) fun ι' a' w' hJ' => ?_
    have hD' : (fun k => listed[k]? = some true ∨ k = i) = (fun k => (listed.setIfInBounds i true)[k]? = some true) := by
      funext k
      by_cases e : k = i
      · subst e; simp [Array.getElem?_setIfInBounds_self_of_lt hli]
      · simp [Array.getElem?_setIfInBounds_ne (Ne.symm e), e]
    rw [hD'] at hJ'
    refine ih _ ι' a' w' (by simp [hs]) ?_ ?_ hJ'
    · have h3 : listed.setIfInBounds i true = listed.set i true hli := by simp [Array.setIfInBounds, hli]
      rw [h3, Array.count_set]
      have h4 : 0 < listed.count false := Array.count_pos_iff.2 (hnl ▸ Array.getElem_mem hli)
      simp [hnl]; omega
    · intro k o hk ho e he hb
      have h3 : listed[e.on]? = some true := by
        by_cases ek : k = i
        · subst ek
          rw [Array.getElem?_eq_getElem hil] at ho; cases ho
          exact hp e he hb
        · rw [Array.getElem?_setIfInBounds_ne (Ne.symm ek)] at hk
          exact hcl k o hk ho e he hb
      by_cases ee : e.on = i
      · rw [ee]; simp [Array.getElem?_setIfInBounds_self_of_lt hli]
      · rw [Array.getElem?_setIfInBounds_ne (Ne.symm ee)]; exact h3
end

section
variable {P : Program} {base : Nat}
theorem Rel.drew {ι : Inj} {fr : List Value} {h : AHeap} {a : Act} {w : World} (r : Rel P base ι fr h a w) (n : Nat) : Rel P base ι fr h a { w with drawn := n } :=
  ⟨⟨r.inv.le, r.inv.lt, r.inv.own, r.inv.ro, r.inv.gl' fun _ _ => rfl⟩, r.tmps, ⟨fun k o l hk hl => ⟨(r.hr.obj k o l hk hl).own, (r.hr.obj k o l hk hl).cells⟩, r.hr.apart⟩, r.defers⟩

/-- A region whose order is drawn. -/
theorem ADW_sound (hm : P.follows .mixedOrders = true) {id : Nat} {ops : Array Oper} (hc : chk ops.toList = true) {K : List Value → AHeap → Prop} {Q : Exit → Act → World → Prop} {N : Nat} (hN : ∀ fr h, K fr h → h.length ≤ N)
    {fr : List Value} {h : AHeap} (hw : ADW P ops.toList h.length 0 [] ops.toList fr h K) {ι : Inj} {a : Act} {w : World} (hr : Rel P base ι fr h a w) (hf : Free ι h.length N)
    (hQ : ∀ fr' h' ι' a' w', K fr' h' → Rel P base ι' fr' h' a' w' → Upd ι ι' h h' w w' → Q .normal a' w') : (Code.region id ops true).wp P Q a w := by
  obtain ⟨F, H, V, T, W, h1, h2, Z, hk, _, hd⟩ := ADW_trace _ _ _ _ _ hw
  rw [Array.length_toList] at hk
  have hg : Good ops T W := ⟨hc, fun i j hij hj => by
    have := hd i j hij (by simpa using hj)
    simpa using this⟩
  have hn := hN _ _ hk
  refine wp_region_any hm ?_
  subst h1
  refine J.any (ι0 := ι) (w0 := w) Z hg (by rw [h2]) (fun ι' a' w' hr' hu' => hQ _ _ ι' a' w' hk hr' (by rw [← h2]; exact hu')) _ _ ι _ _ (by simp) ?_ ?_ ?_
  · have := Array.count_le_size (a := false) (xs := Array.replicate ops.size false); simp
  · intro i o hi; rw [Array.getElem?_replicate] at hi; split at hi <;> simp at hi
  · have : (fun i : Nat => (Array.replicate ops.size false)[i]? = some true) = fun _ => False := by
      funext i; refine propext ⟨fun hi => ?_, False.elim⟩
      rw [Array.getElem?_replicate] at hi; split at hi <;> simp at hi
    rw [this]
    subst h2
    have := J.start (V := V) (W := W) (ops := ops) (hr.drew (w.drawn + 1)) (fun k j1 j2 => hf k j1 (by omega))
    exact ⟨this.inv, this.dom, this.out, this.size, this.tmp, this.tmp0, this.heap, this.apart, this.defers, this.new, this.wsize, this.tape, this.os, this.output, this.block, this.wok⟩
end
end Go.AM

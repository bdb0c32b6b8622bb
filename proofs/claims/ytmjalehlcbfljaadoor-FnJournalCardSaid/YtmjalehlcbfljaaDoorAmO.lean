/- A part of the abstract machine's laws: steps, calls and loops over abstract heaps. -/
import Derived.Test.YtmjalehlcbfljaaDoorAmN
set_option linter.unusedSectionVars false
set_option linter.defProp false
set_option linter.unusedVariables false
set_option linter.unusedSimpArgs false
set_option linter.unnecessarySimpa false
namespace Go.AM
open Go
variable [Ground]

theorem wOp_mem {op : Op} {ρ : Operand → Value} {k : Nat} (h : k ∈ wOp op ρ) : ∃ x ∈ op.operands.toList, k ∈ idOf (ρ x) := by
  unfold wOp at h
  split at h
  · exact ⟨_, by simp [Op.operands], h⟩
  · rename_i b args tys
    have aux : ∀ s, s ∈ args.toList.map ρ → k ∈ idOf s → ∃ x ∈ (Op.call ⟨.builtin b, args, tys⟩).operands.toList, k ∈ idOf (ρ x) := by
      intro s hs hk
      obtain ⟨y, hy, rfl⟩ := List.mem_map.1 hs
      exact ⟨y, by simp [Op.operands, Call.operands, hy], hk⟩
    unfold wBuiltin at h
    split at h
    · rename_i s x hx; exact aux s (by rw [hx]; simp) (wAppend_sub _ _ _ h)
    · rename_i s x hx; exact aux s (by rw [hx]; simp) (wCopy_sub _ _ _ h)
    · rename_i s hx; exact aux s (by rw [hx]; simp) (wClear_sub _ _ h)
    · cases h
  · cases h

theorem VR.idOf_some {P : Program} {ι : Inj} {v v' : Value} (h : VR P ι v v') {k : Nat} (hk : k ∈ idOf v) : ι k ≠ none := by
  cases h with
  | ptr id off b o l h hb ho => simp [idOf] at hk; subst hk; rw [h]; simp
  | slice id off n c b o c' l h hb ho hn hm hc hs => simp [idOf] at hk; subst hk; rw [h]; simp
  | _ => simp [idOf, AM.junk] at hk

section
variable {P : Program} {base n0 : Nat} {ops : Array Oper} {F : Nat → List Value} {H : Nat → AHeap} {V : Nat → Value} {T W : Nat → List Nat}

theorem tr_wr (Z : Trace P ops.toList n0 ops.toList F H V T W) (k : Nat) : ∀ j, j ≤ ops.size → k < (H 0).length → ∀ o, (H j)[k]? = some o → o.w = true → ∃ o0, (H 0)[k]? = some o0 ∧ o0.w = true := by
  intro j
  induction j with
  | zero => intro _ _ o h hw; exact ⟨o, h, hw⟩
  | succ j ih =>
    intro hj hk o h hw
    have hs := (Z.step j ops[j] (by simp [show j < ops.size by omega])).abs
    obtain ⟨o1, h1, h2⟩ := hs.wr k o (Nat.lt_of_lt_of_le hk (tr_le Z 0 j (by omega) (by omega))) h hw
    exact ih (by omega) hk o1 h1 h2

/-- The step j has been carried out. -/
theorem J.next (Z : Trace P ops.toList n0 ops.toList F H V T W) {ι0 : Inj} {w0 : World} {D : Nat → Prop} {ι : Inj} {a : Act} {w : World} (hJ : J P base ops F H V W ι0 w0 D ι a w) (hg : Good ops T W)
    (hD : ∀ i o, D i → ops[i]? = some o → ∀ e ∈ o.after.toList, Region.binds .any e = true → D e.on) {j : Nat} {oj : Oper} (hj : ops[j]? = some oj) (hnj : ¬ D j)
    (hp : ∀ e ∈ oj.after.toList, Region.binds .any e = true → D e.on) (hDn : ∀ i, D i → i < ops.size)
    {ι' : Inj} {w' : World} {v' : Value} (hW : ∀ k ∈ W j, (H 0).length ≤ k → ι k ≠ none) (p : Post2 P base (W j) ι ι' (H j) (H (j + 1)) w w') (hv : VR P ι' (V j) v') (hf : Free ι (H j).length (H (j + 1)).length) :
    J P base ops F H V W ι0 w0 (fun i => D i ∨ i = j) ι' (a.put oj.dst v') w' := by
  have hjl : j < ops.size := (Array.getElem?_eq_some_iff.1 hj).1
  have hs := p.sub hf
  have l0 := tr_le Z 0 j (by omega) (by omega)
  have l1 := tr_len Z j hjl
  have l2 := tr_le Z (j + 1) ops.size (by omega) (Nat.le_refl _)
  have hold : ∀ k, ¬ ((H j).length ≤ k ∧ k < (H (j + 1)).length) → ι' k = ι k := p.out
  -- nobody that has been carried out writes what step j makes
  have hnew : ∀ k, (H j).length ≤ k → k < (H (j + 1)).length → ∀ i, D i → ¬ wr ops H W i k := by
    intro k h1 h2 i hdi ⟨hil, hw⟩
    have hij : i ≠ j := fun e => hnj (e ▸ hdi)
    rcases hw with hw | ⟨h3, h4⟩
    · exact hJ.wok i k hdi hw (by omega) (hf k h1 h2)
    · rcases Nat.lt_or_ge i j with h | h
      · have := tr_le Z (i + 1) j (by omega) (by omega); omega
      · have := tr_le Z (j + 1) i (by omega) (by omega); omega
  -- nor what step j writes to, behind it
  have hsubW : ∀ k ∈ W j, k ∈ T j := fun k hk => (Z.step j oj (by rw [Array.getElem?_toList]; exact hj)).sub hk
  have hlate : ∀ k, wr ops H W j k → ∀ i, D i → wr ops H W i k → i ≤ j := by
    intro k ⟨_, hw⟩ i hdi hwi
    rcases hw with hw | ⟨h1, h2⟩
    · obtain ⟨hil, hwi'⟩ := hwi
      rcases hwi' with hwi' | ⟨h3, h4⟩
      · exact Nat.le_of_lt ((confW hg hDn hD hj hnj hp hil hwi' (hsubW k hw)).2 hdi)
      · rcases Nat.lt_or_ge i (j + 1) with h | h
        · omega
        · obtain ⟨o1, h5, _⟩ := p.wr k hw
          have := (List.getElem?_eq_some_iff.1 h5).1
          have := tr_le Z j i (by omega) (Nat.le_of_lt (hDn i hdi)); omega
    · exact (hnew k h1 h2 i hdi hwi).elim
  -- what VO says now
  have cls : ∀ k o, VO ops H W (fun i => D i ∨ i = j) k o → (wr ops H W j k ∧ (H (j + 1))[k]? = some o) ∨ (¬ wr ops H W j k ∧ VO ops H W D k o) := by
    rintro k o ⟨s, hs, ho⟩
    by_cases hw : wr ops H W j k
    · left
      rcases hs with ⟨_, _, hno⟩ | ⟨i, rfl, hdi, hwi, hmax⟩
      · exact (hno j (.inr rfl) hw).elim
      · have h1 := hmax j (.inr rfl) hw
        rcases hdi with hdi | rfl
        · have h2 := hlate k hw i hdi hwi
          have : i = j := by omega
          exact (hnj (this ▸ hdi)).elim
        · exact ⟨hw, ho⟩
    · right
      refine ⟨hw, s, ?_, ho⟩
      rcases hs with ⟨h1, h2, hno⟩ | ⟨i, rfl, hdi, hwi, hmax⟩
      · exact .inl ⟨h1, h2, fun i hdi => hno i (.inl hdi)⟩
      · rcases hdi with hdi | rfl
        · exact .inr ⟨i, rfl, hdi, hwi, fun i' hdi' => hmax i' (.inl hdi')⟩
        · exact (hw hwi).elim
  have isnew : ∀ k, (H j).length ≤ k → k < (H (j + 1)).length → wr ops H W j k := fun k h1 h2 => ⟨hjl, .inr ⟨h1, h2⟩⟩
  -- an old object, ahead of the step
  have back : ∀ k o l, ¬ ((H j).length ≤ k ∧ k < (H (j + 1)).length) → VO ops H W (fun i => D i ∨ i = j) k o → ι' k = some l →
      ∃ o0, VO ops H W D k o0 ∧ ι k = some l ∧ (o.w = true → o0.w = true) ∧ (o.live → o0.live) ∧ (k ∈ W j → (H (j + 1))[k]? = some o) ∧ (k ∉ W j → o0 = o) := by
    intro k o l hk ho hl
    have hl0 : ι k = some l := by rw [← hold k hk]; exact hl
    rcases cls k o ho with ⟨hw, h1⟩ | ⟨hw, h1⟩
    · obtain ⟨_, hw⟩ := hw
      rcases hw with hw | hw
      · obtain ⟨o0, h2, h3⟩ := p.wr k hw
        exact ⟨o0, hJ.look Z hg hD hj hnj hp hDn (hsubW k hw) h2 hl0, hl0, fun _ => h3, fun _ => .inl h3, fun _ => h1, fun h => (h hw).elim⟩
      · exact (hk hw).elim
    · exact ⟨o, h1, hl0, id, id, fun h => (hw ⟨hjl, .inl h⟩).elim, fun _ => rfl⟩
  -- a written object lies apart from all others
  have wap : ∀ k x ox l m, k ∈ W j → x ≠ k → VO ops H W D x ox → ox.live → ι x = some l → ι k = some m → l.block ≠ m.block := by
    intro k x ox l m hk hne hx hlv hl hm
    obtain ⟨o0, h2, h3⟩ := p.wr k hk
    exact hJ.apart x k ox o0 l m hne hx (hJ.look Z hg hD hj hnj hp hDn (hsubW k hk) h2 hm) h3 hlv hl hm
  refine ⟨p.inv, fun k h1 h2 h3 => ?_, fun k hk => ?_, ?_, fun t i y hdi ho hmax hy => ?_, fun t x y hno hx hy => ?_, fun k o l ho hl => ?_, fun x y ox oy l m hne hx hy hw hlv hl hm => ?_, ?_, fun k l h1 h2 h3 => ?_,
    Nat.le_trans hJ.wsize p.size, p.tape.trans hJ.tape, p.os.trans hJ.os, p.output.trans hJ.output, fun b hb => ?_, fun i k hdi hk hk0 => ?_⟩
  · by_cases hk : (H j).length ≤ k ∧ k < (H (j + 1)).length
    · exact ⟨j, .inr rfl, hk.1, hk.2⟩
    · rw [hold k hk] at h3
      obtain ⟨i, hi, h4, h5⟩ := hJ.dom k h1 h2 h3
      exact ⟨i, .inl hi, h4, h5⟩
  · rw [hold k (by omega)]; exact hJ.out k hk
  · rw [hJ.size]; cases hd : oj.dst <;> simp [Act.put]
  · -- a slot that is written
    by_cases hd : oj.dst = some t
    · have hji := hmax j oj (.inr rfl) hj hd
      rcases hdi with hdi | rfl
      · obtain ⟨oi, hoi, hdi'⟩ := ho
        have := (conf hg.chk hD hj hnj hp hoi (.inl (mem_names hdi' (b := oj) (by unfold namesOf; rw [hd]; simp)))).2 hdi
        omega
      · rw [hd] at hy
        have htl : t < a.tmps.size := by
          have := (Array.getElem?_eq_some_iff.1 hy).1
          simpa [Act.put] using this
        simp only [Act.put] at hy
        rw [Array.getElem?_setIfInBounds_self_of_lt htl] at hy
        cases hy; exact hv
    · rcases hdi with hdi | rfl
      · have hy' : a.tmps[t]? = some y := by
          cases hdd : oj.dst with
          | none => rw [hdd] at hy; exact hy
          | some d =>
            rw [hdd] at hy
            have : d ≠ t := fun e => hd (by rw [hdd, e])
            simp only [Act.put] at hy
            rw [Array.getElem?_setIfInBounds_ne this] at hy
            exact hy
        exact (hJ.tmp t i y hdi ho (fun i' o' hi' => hmax i' o' (.inl hi')) hy').mono hs
      · obtain ⟨o, ho', hd'⟩ := ho
        rw [hj] at ho'; cases ho'; exact (hd hd').elim
  · have hd : oj.dst ≠ some t := hno j oj (.inr rfl) hj
    have hy' : a.tmps[t]? = some y := by
      cases hdd : oj.dst with
      | none => rw [hdd] at hy; exact hy
      | some d =>
        rw [hdd] at hy
        have : d ≠ t := fun e => hd (by rw [hdd, e])
        simp only [Act.put] at hy
        rw [Array.getElem?_setIfInBounds_ne this] at hy
        exact hy
    exact (hJ.tmp0 t x y (fun i o hi => hno i o (.inl hi)) hx hy').mono hs
  · by_cases hk : (H j).length ≤ k ∧ k < (H (j + 1)).length
    · rcases cls k o ho with ⟨_, h1⟩ | ⟨h0, _⟩
      · exact p.obj k o l h1 hl (.inr hk.1)
      · exact (h0 (isnew k hk.1 hk.2)).elim
    · obtain ⟨o0, h1, h2, _, _, h5, h6⟩ := back k o l hk ho hl
      by_cases hw : k ∈ W j
      · exact p.obj k o l (h5 hw) hl (.inl hw)
      · obtain rfl := h6 hw
        refine p.keep hJ.inv hf h2 (hJ.heap k o0 l h1 h2) fun hlv x m hx hm => ?_
        exact wap x k o0 l m hx (fun e => hw (e ▸ hx)) h1 hlv h2 hm
  · have newold : ∀ (x y : Nat) (ox oy : AObj) (l m : Loc), x ≠ y → VO ops H W (fun i => D i ∨ i = j) x ox → VO ops H W (fun i => D i ∨ i = j) y oy → ox.live → oy.live →
        ((H j).length ≤ x ∧ x < (H (j + 1)).length) → ¬ ((H j).length ≤ y ∧ y < (H (j + 1)).length) → ι' x = some l → ι' y = some m → l.block ≠ m.block := by
      intro x y ox oy l m hne hx hy hxv hlv hnx hny hl hm
      obtain ⟨o0, h1, h2, _, h4, h5, _⟩ := back y oy m hny hy hm
      rcases p.new x l hnx.1 hnx.2 hl with hb | ⟨j2, m2, hj2, hm2, hb, hdead⟩
      · have := hJ.inv.lt y m h2; omega
      · rw [← hb]
        by_cases e : y = j2
        · subst e; 
          rcases cls x ox hx with ⟨_, hx1⟩ | ⟨hx0, _⟩
          · exact (hdead ox hx1 hxv oy (h5 hj2) hlv).elim
          · exact (hx0 (isnew x hnx.1 hnx.2)).elim
        · exact fun hbb => wap j2 y o0 m m2 hj2 e h1 (h4 hlv) h2 hm2 hbb.symm
    by_cases hnx : (H j).length ≤ x ∧ x < (H (j + 1)).length <;> by_cases hny : (H j).length ≤ y ∧ y < (H (j + 1)).length
    · rcases cls x ox hx with ⟨_, h1⟩ | ⟨h0, _⟩
      · rcases cls y oy hy with ⟨_, h2⟩ | ⟨h0, _⟩
        · exact p.newap x y ox oy l m hnx.1 hny.1 hne h1 h2 hw hlv hl hm
        · exact (h0 (isnew y hny.1 hny.2)).elim
      · exact (h0 (isnew x hnx.1 hnx.2)).elim
    · exact newold x y ox oy l m hne hx hy hlv (.inl hw) hnx hny hl hm
    · exact fun e => newold y x oy ox m l (Ne.symm hne) hy hx (.inl hw) hlv hny hnx hm hl e.symm
    · obtain ⟨o1, h1, h2, _, h4, _⟩ := back x ox l hnx hx hl
      obtain ⟨o2, k1, k2, k3, _⟩ := back y oy m hny hy hm
      exact hJ.apart x y o1 o2 l m hne h1 k1 (k3 hw) (h4 hlv) h2 k2
  · have := hJ.defers
    cases hd : oj.dst <;> simpa [Act.put] using this
  · by_cases hk : (H j).length ≤ k ∧ k < (H (j + 1)).length
    · rcases p.new k l hk.1 hk.2 h3 with hb | ⟨j2, m2, hj2, hm2, hb, _⟩
      · exact .inl (Nat.le_trans hJ.wsize hb)
      · obtain ⟨o2, ho2, hw2⟩ := p.wr j2 hj2
        have lt2 := (List.getElem?_eq_some_iff.1 ho2).1
        by_cases h0 : j2 < (H 0).length
        · obtain ⟨o3, h4, h5⟩ := tr_wr Z j2 j (by omega) h0 o2 ho2 hw2
          exact .inr ⟨j2, o3, m2, h4, h5, by rw [← hJ.out j2 (by omega)]; exact hm2, hb⟩
        · have := hJ.new j2 m2 (by omega) (by omega) hm2
          rw [hb] at this; exact this
    · rw [hold k hk] at h3; exact hJ.new k l h1 h2 h3
  · rcases p.block b (Nat.lt_of_lt_of_le hb hJ.wsize) with ⟨j2, m2, hj2, hm2, hbb⟩ | he
    · left
      obtain ⟨o2, ho2, hw2⟩ := p.wr j2 hj2
      have lt2 := (List.getElem?_eq_some_iff.1 ho2).1
      by_cases h0 : j2 < (H 0).length
      · obtain ⟨o3, h4, h5⟩ := tr_wr Z j2 j (by omega) h0 o2 ho2 hw2
        exact ⟨j2, o3, m2, h4, h5, by rw [← hJ.out j2 (by omega)]; exact hm2, hbb⟩
      · rcases hJ.new j2 m2 (by omega) (by omega) hm2 with h | h
        · omega
        · rw [hbb] at h; exact h
    · rcases hJ.block b hb with h | h
      · exact .inl h
      · exact .inr (he.trans h)
  · rcases hdi with hdi | rfl
    · have := hJ.wok i k hdi hk hk0
      intro e
      cases hι : ι k with
      | none => exact this hι
      | some l => rw [hs k l hι] at e; cases e
    · have := hW k hk hk0
      intro e
      cases hι : ι k with
      | none => exact this hι
      | some l => rw [hs k l hι] at e; cases e
end
end Go.AM

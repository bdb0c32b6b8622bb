/- A part of the abstract machine's laws: steps, calls and loops over abstract heaps. -/
import Derived.Test.YtmjalehlcbfljaaDoorAmL
set_option linter.unusedSectionVars false
set_option linter.defProp false
set_option linter.unusedVariables false
set_option linter.unusedSimpArgs false
set_option linter.unnecessarySimpa false
namespace Go.AM
open Go
variable [Ground]

/-- What one step of a drawn region leaves. -/
structure Post2 (P : Program) (base : Nat) (W : List Nat) (ι ι' : Inj) (h h' : AHeap) (w w' : World) : Prop where
  inv : Inv base ι' w'
  len : h.length ≤ h'.length
  out : ∀ k, ¬ (h.length ≤ k ∧ k < h'.length) → ι' k = ι k
  new : ∀ k l, h.length ≤ k → k < h'.length → ι' k = some l → w.heap.size ≤ l.block ∨ ∃ j m, j ∈ W ∧ ι j = some m ∧ m.block = l.block ∧ ∀ ok, h'[k]? = some ok → ok.live → ∀ o, h'[j]? = some o → ¬ o.live
  newap : ∀ j k oj ok l m, h.length ≤ j → h.length ≤ k → j ≠ k → h'[j]? = some oj → h'[k]? = some ok → ok.w = true → oj.live → ι' j = some l → ι' k = some m → l.block ≠ m.block
  size : w.heap.size ≤ w'.heap.size
  tape : w'.tape = w.tape
  os : w'.os = w.os
  output : w'.output = w.output
  wr : ∀ k, k ∈ W → ∃ o, h[k]? = some o ∧ o.w = true
  obj : ∀ k o l, h'[k]? = some o → ι' k = some l → (k ∈ W ∨ h.length ≤ k) → ObjOK P ι' o l w'
  block : ∀ b, b < w.heap.size → (∃ k l, k ∈ W ∧ ι k = some l ∧ l.block = b) ∨ w'.heap[b]? = w.heap[b]?

section
variable {P : Program} {base : Nat} {W : List Nat} {ι ι' : Inj} {h h' : AHeap} {w w' : World}
theorem Post.p2 (p : Post P base W ι ι' h h' w w') : Post2 P base W ι ι' h h' w w' :=
  ⟨p.inv, p.len, p.out, fun k l h1 h2 h3 => by
    rcases p.new k l h1 h2 h3 with h | ⟨j, m, a, b, c, d⟩
    · exact .inl h
    · exact .inr ⟨j, m, a, b, c, fun _ _ _ => d⟩, p.newap, p.size, p.tape, p.os, p.output, p.wr, p.obj, p.block⟩
theorem Post2.sub (p : Post2 P base W ι ι' h h' w w') (hf : Free ι h.length h'.length) : Sub ι ι' := by
  intro k l hk
  by_cases hh : h.length ≤ k ∧ k < h'.length
  · rw [hf k hh.1 hh.2] at hk; cases hk
  · rw [p.out k hh]; exact hk
theorem Post2.keep (p : Post2 P base W ι ι' h h' w w') (hi : Inv base ι w) (hf : Free ι h.length h'.length) {k : Nat} {o : AObj} {l : Loc} (hι : ι k = some l) (ho : ObjOK P ι o l w)
    (hne : o.live → ∀ j m, j ∈ W → ι j = some m → l.block ≠ m.block) : ObjOK P ι' o l w' := by
  by_cases hv : o.live
  · refine ho.keep (p.sub hf) ?_
    rcases p.block l.block (hi.lt k l hι) with ⟨j, m, hj, hm, hb⟩ | he
    · exact (hne hv j m hj hm hb.symm).elim
    · exact he
  · exact .dead hv
/-- A call as a step. -/
theorem Post2.call {n0 : Nat} {g g' : AHeap} {T : List Nat} (hle : HLe g h) (tw : CallTW n0 g g' T W) (hgl : g.length ≤ g'.length) (hi : Inv base ι' w') (hr : HR P ι' g' w') (hu : Upd ι ι' g g' w w') : Post2 P base W ι ι' h (mg g h g') w w' := by
  have hl := hle.len
  have hml := mg_length g h g' (by omega)
  have atg : ∀ k, k ∈ W → ∃ o, g[k]? = some o ∧ o.w = true := fun k hk => (tw.wr k).1 hk
  have atm : ∀ k, k ∈ W → (mg g h g')[k]? = g'[k]? := by
    intro k hk
    obtain ⟨o, h1, h2⟩ := atg k hk
    have hlt : k < h.length := by have := (List.getElem?_eq_some_iff.1 h1).1; omega
    rw [mg_get _ _ _ k hlt, if_pos (by rw [List.getD_eq_getElem?_getD, h1]; exact h2), List.getD_eq_getElem?_getD, List.getElem?_eq_getElem (show k < g'.length by omega)]
    rfl
  have atn : ∀ k, h.length ≤ k → (mg g h g')[k]? = g'[k]? := fun k hk => mg_new g h g' k hk
  refine ⟨hi, mg_len _ _ _, fun k hk => hu.out k (by omega), fun k l h1 h2 h3 => ?_, fun j k oj ok l m h1 h2 hne hj hk hw hv hl' hm => ?_, hu.size, hu.tape, hu.os, hu.output, fun k hk => ?_, fun k o l hk hl' hW => ?_, fun b hb => ?_⟩
  · rcases hu.new k l (by omega) (by omega) h3 with hh | ⟨j, o, m, hj, hw, hm, hb⟩
    · exact .inl hh
    · have hjW : j ∈ W := (tw.wr j).2 ⟨o, hj, hw⟩
      refine .inr ⟨j, m, hjW, hm, hb, fun ok hok hlive o' ho' _ => ?_⟩
      have hjl := (List.getElem?_eq_some_iff.1 hj).1
      rw [atm j hjW] at ho'
      rw [atn k h1] at hok
      obtain ⟨o2, ho2, hw2⟩ := tw.still j o hj hw
      have e' := ho2.symm.trans ho'; cases e'
      have hιj : ι' j = some m := by rw [hu.out j (by omega)]; exact hm
      exact hr.apart k j ok _ l m (by omega) hok ho2 hw2 hlive h3 hιj hb.symm
  · rw [atn j h1] at hj; rw [atn k h2] at hk
    exact hr.apart j k oj ok l m hne hj hk hw hv hl' hm
  · obtain ⟨o, h1, h2⟩ := atg k hk
    obtain ⟨o0, h3⟩ := hle.at h1
    exact ⟨o0, h3, (hle.obj k o o0 h1 h3).2.1 h2⟩
  · rcases hW with hW | hW
    · rw [atm k hW] at hk; exact hr.obj k o l hk hl'
    · rw [atn k hW] at hk; exact hr.obj k o l hk hl'
  · rcases hu.block b hb with ⟨k, o, l, hk, hw, hι, hbl⟩ | he
    · exact .inl ⟨k, l, (tw.wr k).2 ⟨o, hk, hw⟩, hι, hbl⟩
    · exact .inr he
end

section
variable {P : Program} {base n0 : Nat} {ops : Array Oper} {F : Nat → List Value} {H : Nat → AHeap} {V : Nat → Value} {T W : Nat → List Nat}

/-- Step i writes to k. -/
def wr (ops : Array Oper) (H : Nat → AHeap) (W : Nat → List Nat) (i k : Nat) : Prop :=
  i < ops.size ∧ (k ∈ W i ∨ ((H i).length ≤ k ∧ k < (H (i + 1)).length))
/-- The object k as the steps of D leave it. -/
def VO (ops : Array Oper) (H : Nat → AHeap) (W : Nat → List Nat) (D : Nat → Prop) (k : Nat) (o : AObj) : Prop :=
  ∃ s, (((s = 0 ∧ k < (H 0).length ∧ ∀ i, D i → ¬ wr ops H W i k) ∨ ∃ j, s = j + 1 ∧ D j ∧ wr ops H W j k ∧ ∀ i, D i → wr ops H W i k → i ≤ j)) ∧ (H s)[k]? = some o

def oldwr (H : Nat → AHeap) (ι0 : Inj) (b : Nat) : Prop := ∃ k o l, (H 0)[k]? = some o ∧ o.w = true ∧ ι0 k = some l ∧ l.block = b

structure J (P : Program) (base : Nat) (ops : Array Oper) (F : Nat → List Value) (H : Nat → AHeap) (V : Nat → Value) (W : Nat → List Nat) (ι0 : Inj) (w0 : World) (D : Nat → Prop) (ι : Inj) (a : Act) (w : World) : Prop where
  inv : Inv base ι w
  dom : ∀ k, (H 0).length ≤ k → k < (H ops.size).length → ι k ≠ none → ∃ i, D i ∧ (H i).length ≤ k ∧ k < (H (i + 1)).length
  out : ∀ k, ¬ ((H 0).length ≤ k ∧ k < (H ops.size).length) → ι k = ι0 k
  size : (F 0).length = a.tmps.size
  tmp : ∀ (t : Nat) j y, D j → (∃ o, ops[j]? = some o ∧ o.dst = some t) → (∀ i o, D i → ops[i]? = some o → o.dst = some t → i ≤ j) → a.tmps[t]? = some y → VR P ι (V j) y
  tmp0 : ∀ (t : Nat) x y, (∀ i o, D i → ops[i]? = some o → o.dst ≠ some t) → (F 0)[t]? = some x → a.tmps[t]? = some y → VR P ι x y
  heap : ∀ k o l, VO ops H W D k o → ι k = some l → ObjOK P ι o l w
  apart : ∀ j k oj ok l m, j ≠ k → VO ops H W D j oj → VO ops H W D k ok → ok.w = true → oj.live → ι j = some l → ι k = some m → l.block ≠ m.block
  defers : a.defers = []
  new : ∀ k l, (H 0).length ≤ k → k < (H ops.size).length → ι k = some l → w0.heap.size ≤ l.block ∨ oldwr H ι0 l.block
  wsize : w0.heap.size ≤ w.heap.size
  tape : w.tape = w0.tape
  os : w.os = w0.os
  output : w.output = w0.output
  block : ∀ b, b < w0.heap.size → oldwr H ι0 b ∨ w.heap[b]? = w0.heap[b]?
  wok : ∀ i k, D i → k ∈ W i → (H 0).length ≤ k → ι k ≠ none

theorem wr_last (k : Nat) : ∀ j, (∀ i, i < j → ¬ wr ops H W i k) ∨ ∃ i, i < j ∧ wr ops H W i k ∧ ∀ i', i' < j → wr ops H W i' k → i' ≤ i := by
  intro j
  induction j with
  | zero => exact .inl fun i h => by omega
  | succ j ih =>
    by_cases h : wr ops H W j k
    · exact .inr ⟨j, by omega, h, fun i' h1 _ => by omega⟩
    · rcases ih with h1 | ⟨i, h1, h2, h3⟩
      · refine .inl fun i hi hw => ?_
        by_cases e : i = j
        · subst e; exact h hw
        · exact h1 i (by omega) hw
      · refine .inr ⟨i, by omega, h2, fun i' hi' hw => ?_⟩
        by_cases e : i' = j
        · subst e; exact (h hw).elim
        · exact h3 i' (by omega) hw


theorem tr_len (Z : Trace P ops.toList n0 ops.toList F H V T W) : ∀ i, i < ops.size → (H i).length ≤ (H (i + 1)).length := by
  intro i hi
  exact (Z.step i ops[i] (by simp [hi])).abs.len
theorem tr_le (Z : Trace P ops.toList n0 ops.toList F H V T W) : ∀ i j, i ≤ j → j ≤ ops.size → (H i).length ≤ (H j).length := by
  intro i j hij hj
  induction j with
  | zero => obtain rfl : i = 0 := by omega
            exact Nat.le_refl _
  | succ j ih =>
    by_cases e : i = j + 1
    · subst e; exact Nat.le_refl _
    · exact Nat.le_trans (ih (by omega) (by omega)) (tr_len Z j (by omega))

theorem tr_flen (Z : Trace P ops.toList n0 ops.toList F H V T W) : ∀ i, i ≤ ops.size → (F i).length = (F 0).length := by
  intro i
  induction i with
  | zero => intro _; rfl
  | succ i ih =>
    intro hi
    rw [Z.fr i ops[i] (by simp [show i < ops.size by omega]), ← ih (by omega)]
    unfold aput; split <;> simp

/-- Between two steps nothing writes: the object is the same. -/
theorem tr_same (Z : Trace P ops.toList n0 ops.toList F H V T W) (k : Nat) : ∀ s j, s ≤ j → j ≤ ops.size → k < (H s).length → (∀ i, s ≤ i → i < j → ¬ wr ops H W i k) → (H j)[k]? = (H s)[k]? := by
  intro s j hsj hj hk hn
  induction j with
  | zero => obtain rfl : s = 0 := by omega
            rfl
  | succ j ih =>
    by_cases e : s = j + 1
    · subst e; rfl
    · rw [← ih (by omega) (by omega) (fun i h1 h2 => hn i h1 (by omega))]
      have hs := (Z.step j ops[j] (by simp [show j < ops.size by omega])).abs
      have hnw := hn j (by omega) (by omega)
      refine hs.same k (Nat.lt_of_lt_of_le hk (tr_le Z s j (by omega) (by omega))) fun hw => hnw ⟨by omega, .inl hw⟩

/-- A slot of the frame ahead of step j. -/
theorem tr_slot (Z : Trace P ops.toList n0 ops.toList F H V T W) (t : Nat) : ∀ j, j ≤ ops.size → (∃ i, i < j ∧ (∃ o, ops[i]? = some o ∧ o.dst = some t) ∧ (∀ i' o, i' < j → ops[i']? = some o → o.dst = some t → i' ≤ i) ∧ (t < (F 0).length → (F j)[t]? = some (V i))) ∨
    ((∀ i o, i < j → ops[i]? = some o → o.dst ≠ some t) ∧ (F j)[t]? = (F 0)[t]?) := by
  intro j
  induction j with
  | zero => intro _; exact .inr ⟨fun i o h => by omega, rfl⟩
  | succ j ih =>
    intro hj
    have hlt : j < ops.size := by omega
    have hF := Z.fr j ops[j] (by simp [hlt])
    have hlen := tr_flen Z j (by omega)
    by_cases hd : (ops[j]).dst = some t
    · left
      refine ⟨j, by omega, ⟨ops[j], by simp [hlt], hd⟩, fun i' o h _ _ => by omega, fun ht => ?_⟩
      rw [hF, hd]
      simp only [aput]
      rw [List.getElem?_set_self (by rw [hlen]; exact ht)]
    · have hsame : (F (j + 1))[t]? = (F j)[t]? := by
        rw [hF]
        unfold aput
        split
        · rename_i d hdd
          have : d ≠ t := fun e => hd (by rw [hdd, e])
          rw [List.getElem?_set_ne this]
        · rfl
      rcases ih (by omega) with ⟨i, hi, ho, hmax, hv⟩ | ⟨hno, hv⟩
      · left
        refine ⟨i, by omega, ho, fun i' o h1 h2 h3 => ?_, fun ht => by rw [hsame]; exact hv ht⟩
        by_cases e : i' = j
        · subst e
          have : o = ops[i'] := by simpa [hlt] using h2.symm
          exact (hd (this ▸ h3)).elim
        · exact hmax i' o (by omega) h2 h3
      · right
        refine ⟨fun i o h1 h2 h3 => ?_, by rw [hsame]; exact hv⟩
        by_cases e : i = j
        · subst e
          have : o = ops[i] := by simpa [hlt] using h2.symm
          exact hd (this ▸ h3)
        · exact hno i o (by omega) h2 h3

theorem chk_fwd (hc : chk ops.toList = true) {j : Nat} {o : Oper} (ho : ops[j]? = some o) : ∀ e ∈ o.after.toList, Region.binds .any e = true → e.on < j := by
  intro e he hb
  have hj : j < ops.size := (Array.getElem?_eq_some_iff.1 ho).1
  unfold chk at hc
  simp only [List.all_eq_true, List.mem_range, Array.length_toList] at hc
  have := hc j hj
  simp only [Array.getElem?_toList, ho, Bool.and_eq_true, List.all_eq_true] at this
  have := this.1 e he
  simpa [hb] using this

theorem chk_ord (hc : chk ops.toList = true) {i j : Nat} {oi oj : Oper} (hi : ops[i]? = some oi) (hj : ops[j]? = some oj) (hij : i < j)
    (h : dstIn ops.toList oi oj = true ∨ dstIn ops.toList oj oi = true) : ordb (befs ops.toList []) i j = true := by
  have hjl : j < ops.size := (Array.getElem?_eq_some_iff.1 hj).1
  unfold chk at hc
  simp only [List.all_eq_true, List.mem_range, Array.length_toList] at hc
  have := hc j hjl
  simp only [Array.getElem?_toList, hj, Bool.and_eq_true, List.all_eq_true, List.mem_range] at this
  have := this.2 i hij
  simp only [hi] at this
  cases ho : ordb (befs ops.toList []) i j with
  | true => rfl
  | false =>
    rw [ho] at this
    simp only [Bool.false_or, Bool.not_eq_true', Bool.or_eq_false_iff] at this
    rcases h with h | h
    · rw [this.1] at h; cases h
    · rw [this.2] at h; cases h

/-- What the steps were found to be: of two in conflict one is behind the other. -/
structure Good (ops : Array Oper) (T W : Nat → List Nat) : Prop where
  chk : chk ops.toList = true
  dis : ∀ i j, i < j → j < ops.size → ordb (befs ops.toList []) i j = true ∨ Dis (T i) (W i) (T j) (W j)

/-- D is closed, and j is next: of two steps in order the earlier one has been carried out. -/
theorem conf0 {D : Nat → Prop} (hD : ∀ i o, D i → ops[i]? = some o → ∀ e ∈ o.after.toList, Region.binds .any e = true → D e.on) {j : Nat} {oj : Oper} (hj : ops[j]? = some oj) (hnj : ¬ D j)
    (hp : ∀ e ∈ oj.after.toList, Region.binds .any e = true → D e.on) {i : Nat} (h1 : i < j → ordb (befs ops.toList []) i j = true) (h2 : j < i → ordb (befs ops.toList []) j i = true) : (i < j → D i) ∧ (D i → i < j) := by
  have hD' : ∀ i o, (D i ∨ i = j) → ops.toList[i]? = some o → ∀ e ∈ o.after.toList, Region.binds .any e = true → (D e.on ∨ e.on = j) := by
    intro i o hio ho e he hb
    rw [Array.getElem?_toList] at ho
    rcases hio with h | rfl
    · exact .inl (hD i o h ho e he hb)
    · rw [hj] at ho; cases ho; exact .inl (hp e he hb)
  refine ⟨fun hij => ?_, fun hdi => ?_⟩
  · have := ordb_closed hD' j i (.inr rfl) (h1 hij)
    rcases this with h | h
    · exact h
    · omega
  · rcases Nat.lt_trichotomy i j with h3 | h3 | h3
    · exact h3
    · subst h3; exact (hnj hdi).elim
    · exact (hnj (ordb_closed (D := D) (fun i o h ho => hD i o h (by rw [Array.getElem?_toList] at ho; exact ho)) i j hdi (h2 h3))).elim
theorem conf {D : Nat → Prop} (hc : chk ops.toList = true) (hD : ∀ i o, D i → ops[i]? = some o → ∀ e ∈ o.after.toList, Region.binds .any e = true → D e.on) {j : Nat} {oj : Oper} (hj : ops[j]? = some oj) (hnj : ¬ D j)
    (hp : ∀ e ∈ oj.after.toList, Region.binds .any e = true → D e.on) {i : Nat} {oi : Oper} (hi : ops[i]? = some oi)
    (h : dstIn ops.toList oi oj = true ∨ dstIn ops.toList oj oi = true) : (i < j → D i) ∧ (D i → i < j) :=
  conf0 hD hj hnj hp (fun hij => chk_ord hc hi hj hij h) (fun hij => chk_ord hc hj hi hij h.symm)
/-- A step that writes to what step j looks into. -/
theorem confW {D : Nat → Prop} (hg : Good ops T W) (hDn : ∀ i, D i → i < ops.size) (hD : ∀ i o, D i → ops[i]? = some o → ∀ e ∈ o.after.toList, Region.binds .any e = true → D e.on) {j : Nat} {oj : Oper} (hj : ops[j]? = some oj) (hnj : ¬ D j)
    (hp : ∀ e ∈ oj.after.toList, Region.binds .any e = true → D e.on) {i k : Nat} (hil : i < ops.size) (hi : k ∈ W i) (hk : k ∈ T j) : (i < j → D i) ∧ (D i → i < j) := by
  have hjl : j < ops.size := (Array.getElem?_eq_some_iff.1 hj).1
  refine conf0 hD hj hnj hp (fun hij => ?_) (fun hij => ?_)
  · rcases hg.dis i j hij hjl with h | ⟨h, _⟩
    · exact h
    · exact (h k hi hk).elim
  · rcases hg.dis j i hij hil with h | ⟨_, h⟩
    · exact h
    · exact (h k hi hk).elim

theorem mem_names {o b : Oper} {d : Nat} (hd : o.dst = some d) (h : d ∈ namesOf ops.toList b) : dstIn ops.toList o b = true := by
  unfold dstIn; rw [hd]; simpa using h

/-- An object as it is ahead of step j. -/
theorem J.look' (Z : Trace P ops.toList n0 ops.toList F H V T W) {ι0 : Inj} {w0 : World} {D : Nat → Prop} {ι : Inj} {a : Act} {w : World} (hJ : J P base ops F H V W ι0 w0 D ι a w) (hDn : ∀ i, D i → i < ops.size) {j : Nat} (hjl : j ≤ ops.size) {k : Nat} {o : AObj} {l : Loc}
    (hk : (H j)[k]? = some o) (hl : ι k = some l) (hmem : ∀ i, wr ops H W i k → (i < j → D i) ∧ (D i → i < j)) : VO ops H W D k o := by
  have hkl : k < (H j).length := (List.getElem?_eq_some_iff.1 hk).1
  have hlast := wr_last (ops := ops) (H := H) (W := W) k j
  rcases hlast with hno | ⟨i, hi, hw, hmax⟩
  · have hk0 : k < (H 0).length := by
      rcases Nat.lt_or_ge k (H 0).length with h | h
      · exact h
      · exfalso
        obtain ⟨i', hi', h3, h4⟩ := hJ.dom k h (Nat.lt_of_lt_of_le hkl (tr_le Z j ops.size hjl (Nat.le_refl _))) (by rw [hl]; simp)
        have hi'l := hDn i' hi'
        have hij : i' < j := by
          rcases Nat.lt_or_ge i' j with h | h
          · exact h
          · have := tr_le Z j i' h (by omega); omega
        exact hno i' hij ⟨hi'l, .inr ⟨h3, h4⟩⟩
    refine ⟨0, .inl ⟨rfl, hk0, fun i hdi hwi => hno i ((hmem i hwi).2 hdi) hwi⟩, ?_⟩
    rw [← tr_same Z k 0 j (by omega) (by omega) hk0 (fun i _ h2 => hno i h2)]; exact hk
  · have hkl1 : k < (H (i + 1)).length := by
      obtain ⟨hil, hww⟩ := hw
      rcases hww with hww | ⟨_, h2⟩
      · rcases Nat.lt_or_ge k (H (i + 1)).length with h | h
        · exact h
        · exfalso
          obtain ⟨i', hi', h3, h4⟩ := hJ.dom k (Nat.le_trans (tr_le Z 0 (i + 1) (by omega) (by omega)) h) (Nat.lt_of_lt_of_le hkl (tr_le Z j ops.size (by omega) (Nat.le_refl _))) (by rw [hl]; simp)
          have hi'l := hDn i' hi'
          have hw' : wr ops H W i' k := ⟨hi'l, .inr ⟨h3, h4⟩⟩
          have h5 := hmax i' ((hmem i' hw').2 hi') hw'
          have := tr_le Z (i' + 1) (i + 1) (by omega) (by omega)
          omega
      · exact h2
    refine ⟨i + 1, .inr ⟨i, rfl, (hmem i hw).1 hi, hw, fun i' hdi hwi => hmax i' ((hmem i' hwi).2 hdi) hwi⟩, ?_⟩
    rw [← tr_same Z k (i + 1) j (by omega) (by omega) hkl1 (fun i' h1 h2 hw' => by have := hmax i' h2 hw'; omega)]; exact hk

/-- What is asked of an object that step j looks into. -/
theorem J.look (Z : Trace P ops.toList n0 ops.toList F H V T W) {ι0 : Inj} {w0 : World} {D : Nat → Prop} {ι : Inj} {a : Act} {w : World} (hJ : J P base ops F H V W ι0 w0 D ι a w) (hg : Good ops T W)
    (hD : ∀ i o, D i → ops[i]? = some o → ∀ e ∈ o.after.toList, Region.binds .any e = true → D e.on) {j : Nat} {oj : Oper} (hj : ops[j]? = some oj) (hnj : ¬ D j)
    (hp : ∀ e ∈ oj.after.toList, Region.binds .any e = true → D e.on) (hDn : ∀ i, D i → i < ops.size) {k : Nat} {o : AObj} {l : Loc} (hT : k ∈ T j) (hk : (H j)[k]? = some o) (hl : ι k = some l) : VO ops H W D k o := by
  have hjl : j < ops.size := (Array.getElem?_eq_some_iff.1 hj).1
  have hkl : k < (H j).length := (List.getElem?_eq_some_iff.1 hk).1
  refine hJ.look' Z hDn (by omega) hk hl fun i ⟨hil, hw⟩ => ?_
  rcases hw with hw | ⟨h1, h2⟩
  · exact confW hg hDn hD hj hnj hp hil hw hT
  · refine ⟨fun hij => ?_, fun hdi => ?_⟩
    · obtain ⟨i', hi', h3, h4⟩ := hJ.dom k (Nat.le_trans (tr_le Z 0 i (by omega) (by omega)) h1) (Nat.lt_of_lt_of_le h2 (tr_le Z (i + 1) ops.size (by omega) (Nat.le_refl _))) (by rw [hl]; simp)
      have : i' = i := by
        rcases Nat.lt_trichotomy i' i with h | h | h
        · have := tr_le Z (i' + 1) i (by omega) (by omega); omega
        · exact h
        · have := tr_le Z (i + 1) i' (by omega) (Nat.le_of_lt (hDn i' hi')); omega
      exact this ▸ hi'
    · rcases Nat.lt_trichotomy i j with h | h | h
      · exact h
      · subst h; omega
      · have := tr_le Z j i (by omega) (by omega); omega

/-- The slots that step j names. -/
theorem J.slot (Z : Trace P ops.toList n0 ops.toList F H V T W) {ι0 : Inj} {w0 : World} {D : Nat → Prop} {ι : Inj} {a : Act} {w : World} (hJ : J P base ops F H V W ι0 w0 D ι a w) (hc : chk ops.toList = true)
    (hD : ∀ i o, D i → ops[i]? = some o → ∀ e ∈ o.after.toList, Region.binds .any e = true → D e.on) {j : Nat} {oj : Oper} (hj : ops[j]? = some oj) (hnj : ¬ D j)
    (hp : ∀ e ∈ oj.after.toList, Region.binds .any e = true → D e.on) {t : Nat} (ht : t ∈ namesOf ops.toList oj) : ∀ x, (F j)[t]? = some x → ∃ y, a.tmps[t]? = some y ∧ VR P ι x y := by
  intro x hx
  have hjl : j < ops.size := (Array.getElem?_eq_some_iff.1 hj).1
  have htl : t < (F j).length := (List.getElem?_eq_some_iff.1 hx).1
  rw [tr_flen Z j (by omega)] at htl
  have hta : t < a.tmps.size := by rw [← hJ.size]; exact htl
  refine ⟨a.tmps[t], by simp [hta], ?_⟩
  have hmem : ∀ i o, ops[i]? = some o → o.dst = some t → (i < j → D i) ∧ (D i → i < j) := fun i o ho hd => conf hc hD hj hnj hp ho (.inl (mem_names hd ht))
  rcases tr_slot Z t j (by omega) with ⟨i, hi, ⟨o, ho, hod⟩, hmax, hv⟩ | ⟨hno, hv⟩
  · rw [hv htl] at hx; cases hx
    exact hJ.tmp t i _ ((hmem i o ho hod).1 hi) ⟨o, ho, hod⟩ (fun i' o' hdi ho' hd' => hmax i' o' ((hmem i' o' ho' hd').2 hdi) ho' hd') (by simp [hta])
  · rw [hv] at hx
    exact hJ.tmp0 t x _ (fun i o hdi ho hd => hno i o ((hmem i o ho hd).2 hdi) ho hd) hx (by simp [hta])
end
end Go.AM

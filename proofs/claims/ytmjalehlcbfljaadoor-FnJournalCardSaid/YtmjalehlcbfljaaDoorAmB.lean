/- A part of the abstract machine's laws: steps, calls and loops over abstract heaps. -/
import Derived.Test.YtmjalehlcbfljaaDoorAmA
import Derived.Laws.CopyRow
set_option linter.unusedSectionVars false
set_option linter.defProp false
set_option linter.unusedVariables false
set_option linter.unusedSimpArgs false
set_option linter.unnecessarySimpa false
namespace Go.AM
open Go
variable [Ground]

/-- What one step leaves: W: the objects that it may have written. -/
structure Post (P : Program) (base : Nat) (W : List Nat) (ι ι' : Inj) (h h' : AHeap) (w w' : World) : Prop where
  inv : Inv base ι' w'
  len : h.length ≤ h'.length
  out : ∀ k, ¬ (h.length ≤ k ∧ k < h'.length) → ι' k = ι k
  new : ∀ k l, h.length ≤ k → k < h'.length → ι' k = some l → w.heap.size ≤ l.block ∨ ∃ j m, j ∈ W ∧ ι j = some m ∧ m.block = l.block ∧ ∀ o, h'[j]? = some o → ¬ o.live
  newap : ∀ j k oj ok l m, h.length ≤ j → h.length ≤ k → j ≠ k → h'[j]? = some oj → h'[k]? = some ok → ok.w = true → oj.live → ι' j = some l → ι' k = some m → l.block ≠ m.block
  size : w.heap.size ≤ w'.heap.size
  tape : w'.tape = w.tape
  os : w'.os = w.os
  output : w'.output = w.output
  same : ∀ k, k < h.length → k ∉ W → h'[k]? = h[k]?
  wr : ∀ k, k ∈ W → ∃ o, h[k]? = some o ∧ o.w = true
  obj : ∀ k o l, h'[k]? = some o → ι' k = some l → (k ∈ W ∨ h.length ≤ k) → ObjOK P ι' o l w'
  block : ∀ b, b < w.heap.size → (∃ k l, k ∈ W ∧ ι k = some l ∧ l.block = b) ∨ w'.heap[b]? = w.heap[b]?

section
variable {P : Program} {base : Nat} {W : List Nat} {ι ι' : Inj} {h h' : AHeap} {w w' : World}

theorem Post.sub (p : Post P base W ι ι' h h' w w') (hf : Free ι h.length h'.length) : Sub ι ι' := by
  intro k l hk
  by_cases hh : h.length ≤ k ∧ k < h'.length
  · rw [hf k hh.1 hh.2] at hk; cases hk
  · rw [p.out k hh]; exact hk

theorem Post.upd (p : Post P base W ι ι' h h' w w') : Upd ι ι' h h' w w' := by
  refine ⟨p.len, p.out, fun k l h1 h2 h3 => ?_, fun k o' hk ho hw => ?_, p.size, p.tape, p.os, p.output, fun b hb => ?_⟩
  · rcases p.new k l h1 h2 h3 with hh | ⟨j, m, hj, hm, hb, _⟩
    · exact .inl hh
    · obtain ⟨o, ho, hw⟩ := p.wr j hj
      exact .inr ⟨j, o, m, ho, hw, hm, hb⟩
  · by_cases hW : k ∈ W
    · exact p.wr k hW
    · rw [p.same k hk hW] at ho; exact ⟨o', ho, hw⟩
  · rcases p.block b hb with ⟨k, l, hk, hι, hbl⟩ | he
    · obtain ⟨o, ho, hw⟩ := p.wr k hk
      exact .inl ⟨k, o, l, ho, hw, hι, hbl⟩
    · exact .inr he

theorem Post.apart (p : Post P base W ι ι' h h' w w') (hi : Inv base ι w) (ha : Apart ι h) : Apart ι' h' := by
  have hold : ∀ k l, k < h.length → ι' k = some l → ι k = some l := by
    intro k l hk hl; rw [← p.out k (by omega)]; exact hl
  have hwr : ∀ k o, k < h.length → h'[k]? = some o → o.w = true → ∃ o', h[k]? = some o' ∧ o'.w = true := by
    intro k o hk ho hw
    by_cases hW : k ∈ W
    · exact p.wr k hW
    · rw [p.same k hk hW] at ho; exact ⟨o, ho, hw⟩
  have hlv : ∀ k o, k < h.length → h'[k]? = some o → o.live → ∃ o', h[k]? = some o' ∧ o'.live := by
    intro k o hk ho hv
    by_cases hW : k ∈ W
    · obtain ⟨o', h1, h2⟩ := p.wr k hW; exact ⟨o', h1, .inl h2⟩
    · rw [p.same k hk hW] at ho; exact ⟨o, ho, hv⟩
  intro j k oj ok l m hne hj hk hw hv hl hm
  have ltj := (List.getElem?_eq_some_iff.1 hj).1
  have ltk := (List.getElem?_eq_some_iff.1 hk).1
  by_cases hjl : j < h.length <;> by_cases hkl : k < h.length
  · obtain ⟨oj', hj', hv'⟩ := hlv j oj hjl hj hv
    obtain ⟨ok', hk', hw'⟩ := hwr k ok hkl hk hw
    exact ha j k oj' ok' l m hne hj' hk' hw' hv' (hold j l hjl hl) (hold k m hkl hm)
  · obtain ⟨oj', hj', hv'⟩ := hlv j oj hjl hj hv
    rcases p.new k m (by omega) ltk hm with hh | ⟨i, mi, hiW, hmi, hb, hdead⟩
    · have := hi.lt j l (hold j l hjl hl); omega
    · obtain ⟨oi, hoi, hwi⟩ := p.wr i hiW
      rw [← hb]
      exact ha j i oj' oi l mi (fun e => by subst e; exact hdead oj hj hv) hj' hoi hwi hv' (hold j l hjl hl) hmi
  · obtain ⟨ok', hk', hw'⟩ := hwr k ok hkl hk hw
    rcases p.new j l (by omega) ltj hl with hh | ⟨i, mi, hiW, hmi, hb, hdead⟩
    · have := hi.lt k m (hold k m hkl hm); omega
    · obtain ⟨oi, hoi, hwi⟩ := p.wr i hiW
      rw [← hb]
      exact ha i k oi ok' mi m (fun e => by subst e; exact hdead ok hk (.inl hw)) hoi hk' hw' (.inl hwi) hmi (hold k m hkl hm)
  · exact p.newap j k oj ok l m (by omega) (by omega) hne hj hk hw hv hl hm

theorem ObjOK.dead {o : AObj} {l : Loc} (hd : ¬ o.live) : ObjOK P ι o l w :=
  ⟨fun hw => (hd (.inl hw)).elim, fun i v hv => by
    have : o.cells ≠ [] := by intro e; rw [e] at hv; simp at hv
    exact (hd (.inr this)).elim⟩

/-- An object that is not written is still there. -/
theorem Post.keep (p : Post P base W ι ι' h h' w w') (hi : Inv base ι w) (hf : Free ι h.length h'.length) {k : Nat} {o : AObj} {l : Loc} (hι : ι k = some l) (ho : ObjOK P ι o l w)
    (hne : o.live → ∀ j m, j ∈ W → ι j = some m → l.block ≠ m.block) : ObjOK P ι' o l w' := by
  by_cases hv : o.live
  · refine ho.keep (p.sub hf) ?_
    rcases p.block l.block (hi.lt k l hι) with ⟨j, m, hj, hm, hb⟩ | he
    · exact (hne hv j m hj hm hb.symm).elim
    · exact he
  · exact .dead hv

theorem Post.hr (p : Post P base W ι ι' h h' w w') (hi : Inv base ι w) (hf : Free ι h.length h'.length) (hr : HR P ι h w) : HR P ι' h' w' := by
  refine ⟨fun k o l hk hl => ?_, p.apart hi hr.apart⟩
  by_cases hW : k ∈ W ∨ h.length ≤ k
  · exact p.obj k o l hk hl hW
  · have h1 : k ∉ W := fun h => hW (.inl h)
    have h2 : k < h.length := by omega
    have hι : ι k = some l := by rw [← p.out k (by omega)]; exact hl
    rw [p.same k h2 h1] at hk
    refine p.keep hi hf hι (hr.obj k o l hk hι) fun hv j m hj hm => ?_
    obtain ⟨oj, hoj, hwj⟩ := p.wr j hj
    exact hr.apart k j o oj l m (fun e => by subst e; exact h1 hj) hk hoj hwj hv hι hm

/-- Nothing happens. -/
theorem Post.refl (hi : Inv base ι w) : Post P base [] ι ι h h w w :=
  ⟨hi, Nat.le_refl _, fun _ _ => rfl, fun k l h1 h2 => by omega, fun j k oj ok l m h1 h2 _ hj => by have := (List.getElem?_eq_some_iff.1 hj).1; omega, Nat.le_refl _, rfl, rfl, rfl, fun _ _ _ => rfl, by simp,
    fun k o l hk _ hW => by rcases hW with hW | hW; · cases hW
                            · have := (List.getElem?_eq_some_iff.1 hk).1; omega, fun _ _ => .inr rfl⟩

/-- A draw alone. -/
theorem Post.drew (p : Post P base W ι ι' h h' w w') (n : Nat) : Post P base W ι ι' h h' w { w' with drawn := n } :=
  ⟨⟨p.inv.le, p.inv.lt, p.inv.own, p.inv.ro, p.inv.gl' fun _ _ => rfl⟩, p.len, p.out, p.new, p.newap, p.size, p.tape, p.os, p.output, p.same, p.wr,
    fun k o l hk hl hW => ⟨(p.obj k o l hk hl hW).own, (p.obj k o l hk hl hW).cells⟩, p.block⟩

/-- One more place. -/
def upd1 (ι : Inj) (k : Nat) (l : Loc) : Inj := fun j => if j = k then some l else ι j

theorem upd1_self (ι : Inj) (k : Nat) (l : Loc) : upd1 ι k l k = some l := by simp [upd1]
theorem upd1_ne (ι : Inj) (k : Nat) (l : Loc) {j : Nat} (h : j ≠ k) : upd1 ι k l j = ι j := by simp [upd1, h]

theorem cell_new (w : World) (cs : Array Value) (t : TypeId) (i : Nat) : World.cell? { w with heap := w.heap.push (.cells cs t) } ⟨w.heap.size, i, none⟩ = cs[i]? := by
  simp [World.cell?]

/-- A new object in a new block; D: the objects that die by it. -/
theorem Post.new' (hi : Inv base ι w) (hf : ι h.length = none) (cells : List Value) (t : TypeId) (cs : Array Value) (hsz : cells.length ≤ cs.size)
    (hv : ∀ ι', Sub ι ι' → ∀ (i : Nat) v, cells[i]? = some v → ∃ v', cs[i]? = some v' ∧ VR P ι' v v') :
    Post P base [] ι (upd1 ι h.length ⟨w.heap.size, 0, true, t, cs.size⟩) h (h ++ [⟨cells, t, true⟩]) w { w with heap := w.heap.push (.cells cs t) } := by
  have hs : Sub ι (upd1 ι h.length ⟨w.heap.size, 0, true, t, cs.size⟩) := by
    intro k l hk
    by_cases e : k = h.length
    · subst e; rw [hf] at hk; cases hk
    · rw [upd1_ne _ _ _ e]; exact hk
  refine ⟨⟨by simp; have := hi.le; omega, fun k l hk => ?_, fun k l hk ho => ?_, fun k l hk ho => ?_, hi.gl' fun b hb => by have := hi.le; simp [Array.getElem?_push, Nat.ne_of_lt (Nat.lt_of_lt_of_le hb this)]⟩, by simp, fun k hk => ?_, fun k l h1 h2 hk => .inl ?_, fun j k oj ok l m h1 h2 hne hj hk => ?_, by simp, rfl, rfl, rfl,
    fun k hk _ => by rw [List.getElem?_append_left hk], by simp, fun k o l hk hl hW => ?_, fun b hb => .inr (by simp [Array.getElem?_push, Nat.ne_of_lt hb])⟩
  · by_cases e : k = h.length
    · subst e; rw [upd1_self] at hk; cases hk; simp
    · rw [upd1_ne _ _ _ e] at hk; have := hi.lt k l hk; simp; omega
  · by_cases e : k = h.length
    · subst e; rw [upd1_self] at hk; cases hk; exact ⟨hi.le, rfl⟩
    · rw [upd1_ne _ _ _ e] at hk; exact hi.own k l hk ho
  · by_cases e : k = h.length
    · subst e; rw [upd1_self] at hk; cases hk; cases ho
    · rw [upd1_ne _ _ _ e] at hk; exact hi.ro k l hk ho
  · simp at hk
    rw [upd1_ne _ _ _ (by omega)]
  · simp at h2
    have e : k = h.length := by omega
    subst e; rw [upd1_self] at hk; cases hk; exact Nat.le_refl _
  · have := (List.getElem?_eq_some_iff.1 hj).1
    have := (List.getElem?_eq_some_iff.1 hk).1
    simp at *; omega
  · have hk1 : k = h.length := by
      have := (List.getElem?_eq_some_iff.1 hk).1
      simp at this
      rcases hW with hW | hW
      · cases hW
      · omega
    subst hk1
    rw [upd1_self] at hl; cases hl
    simp at hk; subst hk
    refine ⟨fun _ => ⟨rfl, rfl, cs, by simp, hsz, rfl⟩, fun i v hi' => ?_⟩
    obtain ⟨v', h1, h2⟩ := hv _ hs i v hi'
    exact ⟨v', by simp only [Nat.zero_add]; rw [cell_new]; exact h1, h2⟩
end

/-! ### The abstract heap's operations -/
def hget (h : AHeap) (id i : Nat) : Option Value := (h[id]?).bind fun o => o.cells[i]?
def hread (h : AHeap) (id off n : Nat) : Option (List Value) :=
  (h[id]?).bind fun o => if off + n ≤ o.cells.length then some ((o.cells.drop off).take n) else none
def hset (h : AHeap) (id off : Nat) (vs : List Value) : Option AHeap :=
  (h[id]?).bind fun o => if o.w = true ∧ off + vs.length ≤ o.cells.length then some (h.set id { o with cells := o.cells.take off ++ vs ++ o.cells.drop (off + vs.length) }) else none
def hnew (h : AHeap) (cells : List Value) (t : TypeId) : AHeap := h ++ [⟨cells, t, true⟩]

/-- Values that lie in one cell, and are known. -/
def isCell : Value → Bool
  | .bool _ | .int _ _ | .string _ | .pointer _ | .slice _ _ _ | .func _ _ _ | .nilFunc | .iface _ _ | .nilIface => true
  | _ => false
def isVal : Value → Bool
  | .agg cs => cs.all isCell
  | v => isCell v
def flat : Value → Bool
  | .bool _ | .int _ _ | .string _ | .pointer none | .slice none 0 0 | .nilFunc | .nilIface => true
  | _ => false
def closed : Value → Bool
  | .agg cs => cs.all flat
  | v => flat v

section
variable {P : Program} {ι : Inj}

theorem VR.flat {v : Value} (hf : AM.flat v = true) : VR P ι v v := by
  unfold AM.flat at hf
  split at hf <;> first | exact .bool _ | exact .int _ _ | exact .string _ | exact .nilptr | exact .nilslice | exact .nilfunc | exact .niliface | cases hf

theorem VR.closed {v : Value} (hc : AM.closed v = true) : VR P ι v v := by
  unfold AM.closed at hc
  split at hc
  · rename_i cs
    refine .agg _ _ rfl fun i x y hx hy => ?_
    rw [hx] at hy; cases hy
    exact VR.flat (by
      rw [Array.all_eq_true] at hc
      obtain ⟨hlt, he⟩ := Array.getElem?_eq_some_iff.1 hx
      rw [← he]; exact hc i hlt)
  · exact VR.flat hc

theorem VR.oneCell {v v' : Value} (h : VR P ι v v') (hc : isCell v = true) : v'.oneCell' = true ∧ v'.cells = #[v'] ∧ v.cells = #[v] := by
  cases h with
  | junk => exact absurd hc (by rw [show isCell AM.junk = false from rfl]; simp)
  | _ => simp_all [isCell, Value.oneCell', Value.cells]

theorem VR.cells {v v' : Value} (h : VR P ι v v') (hc : isVal v = true) : VRL P ι v.cells.toList v'.cells.toList ∧ (∀ u ∈ v'.cells.toList, u.oneCell' = true) := by
  cases v with
  | agg cs =>
    cases h with
    | agg a b h1 h2 =>
      simp only [isVal, Array.all_eq_true] at hc
      refine ⟨⟨by simp [Value.cells, h1], fun i x y hx hy => h2 i x y (by simpa [Value.cells] using hx) (by simpa [Value.cells] using hy)⟩, fun u hu => ?_⟩
      simp only [Value.cells] at hu
      obtain ⟨i, hi, rfl⟩ := List.mem_iff_getElem.1 hu
      have hi' : i < cs.size := by rw [h1]; simpa using hi
      exact ((h2 i cs[i] _ (by simp [hi']) (by simp)).oneCell (hc i hi')).1
  | _ =>
    simp only [isVal] at hc
    obtain ⟨h1, h2, h3⟩ := h.oneCell hc
    rw [h2, h3]
    exact ⟨VRL.cons h (VRL.nil ι), by simpa using h1⟩

/-! ### reading -/
theorem hread_run {h : AHeap} {w : World} {id off n : Nat} {cs : List Value} (hr : hread h id off n = some cs) {l : Loc}
    (hobj : ∀ o, h[id]? = some o → ObjOK P ι o l w) :
    ∃ cs', (loadCells ⟨l.block, l.off + off, none⟩ n).run P w = .ok cs'.toArray w ∧ VRL P ι cs cs' ∧ (∀ (j : Nat) v, cs'[j]? = some v → w.cell? ((⟨l.block, l.off + off, none⟩ : Addr).add j) = some v) ∧ cs'.length = n := by
  unfold hread at hr
  obtain ⟨o, ho, hr⟩ := Option.bind_eq_some_iff.1 hr
  split at hr
  · rename_i hlen
    cases hr
    have hok := hobj o ho
    have hex : ∀ j, j < n → ∃ v', w.cell? ⟨l.block, l.off + (off + j), none⟩ = some v' ∧ VR P ι (o.cells.getD (off + j) undef) v' := by
      intro j hj
      have hlt : off + j < o.cells.length := by omega
      exact hok.cells (off + j) _ (by rw [List.getD_eq_getElem?_getD]; simp [hlt])
    let f : Nat → Value := fun j => ((w.cell? ⟨l.block, l.off + (off + j), none⟩).getD undef)
    have hcell : ∀ j, j < n → w.cell? ((⟨l.block, l.off + off, none⟩ : Addr).add j) = some (f j) := by
      intro j hj
      obtain ⟨v', h1, _⟩ := hex j hj
      have hadd : (⟨l.block, l.off + off, none⟩ : Addr).add j = ⟨l.block, l.off + (off + j), none⟩ := by
        unfold Addr.add; split
        · rename_i e; subst e; simp
        · simp [Nat.add_assoc]
      rw [hadd]; simp [f, h1]
    refine ⟨(List.range n).map f, run_loadCells (P := P) w _ n f hcell, ⟨by simp; omega, fun i x y hx hy => ?_⟩, fun j v hj => ?_, by simp⟩
    rotate_left
    · have hjn : j < n := by have := (List.getElem?_eq_some_iff.1 hj).1; simpa using this
      simp [hjn] at hj
      rw [hcell j hjn, ← hj]
    have hi : i < n := by
      have := (List.getElem?_eq_some_iff.1 hy).1
      simpa using this
    obtain ⟨v', h1, h2⟩ := hex i hi
    have hx' : x = o.cells.getD (off + i) undef := by
      rw [List.getElem?_take, if_pos hi, List.getElem?_drop] at hx
      rw [List.getD_eq_getElem?_getD, hx]; rfl
    have hy' : y = v' := by
      simp [hi] at hy
      rw [← hy]; simp [f, h1]
    rw [hx', hy']; exact h2
  · cases hr

theorem hget_run {h : AHeap} {w : World} {id off : Nat} {v : Value} (hr : hget h id off = some v) {l : Loc}
    (hobj : ∀ o, h[id]? = some o → ObjOK P ι o l w) : ∃ v', w.cell? ⟨l.block, l.off + off, none⟩ = some v' ∧ VR P ι v v' := by
  unfold hget at hr
  obtain ⟨o, ho, hr⟩ := Option.bind_eq_some_iff.1 hr
  exact (hobj o ho).cells off v hr

/-! ### writing -/
theorem setRow_cell (w : World) (g : Nat) (cur cs : Array Value) (t : TypeId) (fr : Nat × Nat) (hg : w.heap[g]? = some (.cells cur t fr)) (i : Nat) : (w.setRow g cs).cell? ⟨g, i, none⟩ = cs[i]? := by
  have := setRow_heap w g cur cs t fr hg
  simp [World.cell?, this]

theorem hset_run {base : Nat} {h h' : AHeap} {w : World} {id off : Nat} {vs vs' : List Value} (hs : hset h id off vs = some h') (hi : Inv base ι w) {l : Loc} (hl : ι id = some l)
    (hobj : ∀ o, h[id]? = some o → ObjOK P ι o l w) (hv : VRL P ι vs vs') (h1 : ∀ u ∈ vs', u.oneCell' = true) :
    ∃ w', (storeCells ⟨l.block, l.off + off, none⟩ vs').run P w = .ok () w' ∧ Post P base [id] ι ι h h' w w' := by
  unfold hset at hs
  obtain ⟨o, ho, hs⟩ := Option.bind_eq_some_iff.1 hs
  split at hs
  · rename_i hc
    obtain ⟨hw, hlen⟩ := hc
    cases hs
    have hok := hobj o ho
    obtain ⟨hown, helem, cs, hb, hcs, hsz⟩ := hok.own hw
    have hoff := (hi.own id l hl hown).2
    have hrun := run_storeCells_at P l.block off o.elem vs' 0 cs w hb (by have := hv.1; omega) h1
    have hidlt : id < h.length := (List.getElem?_eq_some_iff.1 ho).1
    have hcell0 : ∀ (i : Nat) (v : Value), o.cells[i]? = some v → ∃ v', cs[i]? = some v' ∧ VR P ι v v' := by
      intro i v hiv
      obtain ⟨v', h3, h4⟩ := hok.cells i v hiv
      rw [hoff, Nat.zero_add] at h3
      exact ⟨v', by rw [← h3]; simp [World.cell?, hb], h4⟩
    simp only [Nat.add_zero] at hrun
    refine ⟨_, by rw [hoff, Nat.zero_add]; exact hrun, ?_⟩
    have hheap : ∀ b, b ≠ l.block → (w.setRow l.block (cs.toList.take off ++ vs' ++ cs.toList.drop (off + vs'.length)).toArray).heap[b]? = w.heap[b]? := fun b hb' => setRow_other w l.block b _ hb'
    have hself := setRow_heap w l.block cs (cs.toList.take off ++ vs' ++ cs.toList.drop (off + vs'.length)).toArray o.elem (0, 0) hb
    have hsize : (w.setRow l.block (cs.toList.take off ++ vs' ++ cs.toList.drop (off + vs'.length)).toArray).heap.size = w.heap.size := by simp [World.setRow]
    have hvl := hv.1
    have hnew : (cs.toList.take off ++ vs' ++ cs.toList.drop (off + vs'.length)).length = cs.size := by simp; omega
    refine ⟨⟨by rw [hsize]; exact hi.le, fun k m hk => by rw [hsize]; exact hi.lt k m hk, hi.own, hi.ro, hi.gl' fun b hb => hheap b (by have := (hi.own id l hl hown).1; omega)⟩, by simp, fun _ _ => rfl, fun k m h1 h2 => by simp at h2; omega, fun j k oj ok l m h1 h2 _ hj => by have := (List.getElem?_eq_some_iff.1 hj).1; simp at this; omega, by rw [hsize]; exact Nat.le_refl _, rfl, rfl, rfl,
      fun k hk hne => ?_, fun k hk => ?_, fun k o' m hk hm hW => ?_, fun b hb' => ?_⟩
    · have : id ≠ k := fun e => hne (by simp [e])
      rw [List.getElem?_set_ne this]
    · simp at hk; subst hk; exact ⟨o, ho, hw⟩
    · have hk1 : k = id := by
        have := (List.getElem?_eq_some_iff.1 hk).1
        simp at this hW
        omega
      subst hk1
      rw [hl] at hm; cases hm
      rw [List.getElem?_set_self hidlt] at hk; cases hk
      refine ⟨fun _ => ⟨hown, helem, _, hself, ?_, ?_⟩, fun i v hiv => ?_⟩
      · simp; omega
      · simp only [List.size_toArray]; rw [hnew]; exact hsz
      · rw [hoff, Nat.zero_add, setRow_cell w l.block cs _ o.elem (0, 0) hb]
        simp only at hiv
        by_cases c1 : i < off
        · rw [List.append_assoc, List.getElem?_append_left (by simp; omega), List.getElem?_take, if_pos c1] at hiv
          obtain ⟨v', h3, h4⟩ := hcell0 i v hiv
          refine ⟨v', ?_, h4⟩
          have hlt : i < cs.size := (Array.getElem?_eq_some_iff.1 h3).1
          simp only [List.getElem?_toArray]
          rw [List.append_assoc, List.getElem?_append_left (by simp; omega), List.getElem?_take, if_pos c1]
          simpa using h3
        · by_cases c2 : i < off + vs.length
          · rw [List.append_assoc, List.getElem?_append_right (by simp; omega), List.getElem?_append_left (by simp; omega)] at hiv
            obtain ⟨v', h3, h4⟩ := hv.get _ hiv
            refine ⟨v', ?_, h4⟩
            simp only [List.getElem?_toArray]
            rw [List.append_assoc, List.getElem?_append_right (by simp; omega), List.getElem?_append_left (by simp; omega)]
            rw [← h3]; congr 1; simp; omega
          · rw [List.getElem?_append_right (by simp; omega), List.getElem?_drop] at hiv
            have e : off + vs.length + (i - (o.cells.take off ++ vs).length) = i := by simp; omega
            rw [e] at hiv
            obtain ⟨v', h3, h4⟩ := hcell0 i v hiv
            refine ⟨v', ?_, h4⟩
            have hlt : i < cs.size := (Array.getElem?_eq_some_iff.1 h3).1
            simp only [List.getElem?_toArray]
            rw [List.getElem?_append_right (by simp; omega), List.getElem?_drop]
            have e' : off + vs'.length + (i - (cs.toList.take off ++ vs').length) = i := by simp; omega
            rw [e']; simpa using h3
    · by_cases e : b = l.block
      · exact .inl ⟨id, l, by simp, hl, e.symm⟩
      · exact .inr (hheap b e)
  · cases hs
end
end Go.AM

/- A part of the abstract machine's laws: steps, calls and loops over abstract heaps. -/
import Derived.Test.YtmjalehlcbfljaaDoorAmE
set_option linter.unusedSectionVars false
set_option linter.defProp false
set_option linter.unusedVariables false
set_option linter.unusedSimpArgs false
set_option linter.unnecessarySimpa false
namespace Go.AM
open Go
variable [Ground]

/-! ### build -/
/-- Where a field lies and how many cells it has; and the zero value's cells. -/
def places (P : Program) (t : TypeId) : Option (List (Nat × Nat)) :=
  match P.underlying t with
  | some (.struct fs) => fs.toList.mapM fun f => (P.info? f.type).map fun i => (f.offset, i.size)
  | _ => none
def aFill (pl : Nat → Option (Nat × Nat)) : List Value → List (Nat × Value) → Option (List Value)
  | cells, [] => some cells
  | cells, (i, v) :: r => (pl i).bind fun os =>
      if isVal v = true ∧ v.cells.size = os.2 ∧ os.1 + os.2 ≤ cells.length then aFill pl (cells.take os.1 ++ v.cells.toList ++ cells.drop (os.1 + os.2)) r else none
def aBuild (P : Program) (t : TypeId) (parts : List (Nat × Value)) : Option Value :=
  (tinfo P t).bind fun ti => (places P t).bind fun pl => if ti.zero.all flat = true then (aFill (pl[·]?) ti.zero parts).map fun cs => .agg cs.toArray else none
def aZeros (z : List Value) (n : Nat) : List Value := (List.replicate n z).flatten
def aBuildSlice (P : Program) (t : TypeId) (len : Nat) (parts : List (Nat × Value)) (h : AHeap) : Option (Value × AHeap) :=
  (selem P t).bind fun e => (tinfo P e).bind fun ti =>
    if len * ti.size ≤ 16777216 ∧ len ≤ 16777216 ∧ ti.zero.all flat = true ∧ ti.zero.length = ti.size then
      (aFill (fun i => some (i * ti.size, ti.size)) (aZeros ti.zero len) parts).map fun cs => (.slice (some ⟨h.length, 0, none⟩) len len, hnew h cs e)
    else none
def aMake (P : Program) (t : TypeId) (l c : Value) (h : AHeap) : Option (Value × AHeap) :=
  match l, c with
  | .int _ l, .int _ c => (selem P t).bind fun e => (tinfo P e).bind fun ti =>
      if 0 ≤ l ∧ l ≤ c ∧ c * ti.bytes ≤ 140737488355328 ∧ c ≤ 4611686018427387904 ∧ ti.zero.all flat = true ∧ ti.zero.length = ti.size then
        some (.slice (some ⟨h.length, 0, none⟩) l.toNat c.toNat, hnew h (aZeros ti.zero c.toNat) e)
      else none
  | _, _ => none

section
variable {P : Program} {ι : Inj} {base : Nat}

theorem foldl_put (vs : List Value) : ∀ (off k : Nat) (cells : Array Value), off + k + vs.length ≤ cells.size →
    (List.foldl (fun cs (x : Value × Nat) => cs.setIfInBounds (off + x.2) x.1) cells (vs.zipIdx k)).toList = cells.toList.take (off + k) ++ vs ++ cells.toList.drop (off + k + vs.length) := by
  induction vs with
  | nil => intro off k cells h; simp
  | cons v r ih =>
    intro off k cells h
    simp only [List.zipIdx_cons, List.foldl_cons]
    simp only [List.length_cons] at h
    rw [ih off (k + 1) _ (by simp; omega)]
    have hl : off + k < cells.toList.length := by simp; omega
    simp only [Array.toList_setIfInBounds, List.length_cons]
    have e1 : (cells.toList.set (off + k) v).take (off + (k + 1)) = cells.toList.take (off + k) ++ [v] := by
      rw [show off + (k + 1) = off + k + 1 by omega, List.take_succ_eq_append_getElem (by simpa using hl)]
      rw [List.take_set, List.set_eq_of_length_le (by simp; omega)]; simp
    have e2 : (cells.toList.set (off + k) v).drop (off + (k + 1) + r.length) = cells.toList.drop (off + k + (r.length + 1)) := by
      rw [List.drop_set, if_pos (by omega)]; congr 1; omega
    rw [e1, e2]; simp

theorem fill_step (cells vc : Array Value) (off : Nat) (h : off + vc.size ≤ cells.size) :
    (vc.zipIdx.foldl (fun cs (x : Value × Nat) => cs.setIfInBounds (off + x.2) x.1) cells) = (cells.toList.take off ++ vc.toList ++ cells.toList.drop (off + vc.size)).toArray := by
  rw [← Array.foldl_toList, Array.toList_zipIdx]
  apply Array.ext'
  have := foldl_put vc.toList off 0 cells (by simpa using h)
  simpa using this

theorem aFill_run {pl : Nat → Option (Nat × Nat)} : ∀ (parts : List (Nat × Value)) (parts' : List (Nat × Value)) (cells cells' cs : List Value), aFill pl cells parts = some cs → VRL P ι cells cells' →
    parts.length = parts'.length → (∀ (j : Nat) x y, parts[j]? = some x → parts'[j]? = some y → x.1 = y.1 ∧ VR P ι x.2 y.2) →
    ∃ cs', Instr.fill pl cells'.toArray parts' = some cs'.toArray ∧ VRL P ι cs cs' := by
  intro parts
  induction parts with
  | nil =>
    intro parts' cells cells' cs ha hv hl hp
    obtain rfl : parts' = [] := List.eq_nil_of_length_eq_zero (by simpa using hl.symm)
    simp [aFill] at ha; subst ha
    exact ⟨cells', rfl, hv⟩
  | cons x r ih =>
    intro parts' cells cells' cs ha hv hl hp
    cases parts' with
    | nil => simp at hl
    | cons y r' =>
      obtain ⟨i, v⟩ := x
      obtain ⟨i', v'⟩ := y
      have h0 := hp 0 _ _ rfl rfl
      simp only at h0
      obtain ⟨rfl, hvv⟩ := h0
      simp only [aFill] at ha
      obtain ⟨⟨off, size⟩, hpl, ha⟩ := Option.bind_eq_some_iff.1 ha
      split at ha
      · rename_i hc
        obtain ⟨hval, hsz, hle⟩ := hc
        simp only at hsz hle ha
        obtain ⟨hcl, _⟩ := hvv.cells hval
        have hsz' : v'.cells.size = size := by have h1 := hcl.1; simp only [Array.length_toList] at h1; rw [← h1]; exact hsz
        have hlen := hv.1
        obtain ⟨cs', h1, h2⟩ := ih r' _ _ cs ha (((hv.take off).append hcl).append (hv.drop (off + size))) (by simpa using hl) (fun j x y hx hy => hp (j + 1) x y (by simpa using hx) (by simpa using hy))
        refine ⟨cs', ?_, h2⟩
        have hf := fill_step cells'.toArray v'.cells off (by simp; omega)
        simp only [Instr.fill, hpl]
        rw [if_neg (by simp [hsz']; omega)]
        rw [hsz'] at hf
        rw [← h1]
        congr 1
      · cases ha

theorem mapM_places (w : World) (fs : List Field) : ∀ pl, (fs.mapM fun f => (P.info? f.type).map fun i => (f.offset, i.size)) = some pl →
    (fs.mapM fun f => (do pure (f.offset, ← sizeOf f.type) : Sem (Nat × Nat))).run P w = .ok pl w := by
  induction fs with
  | nil => intro pl h; simp at h; subst h; rfl
  | cons f r ih =>
    intro pl h
    simp only [List.mapM_cons, Option.bind_eq_bind, Option.pure_def] at h
    obtain ⟨x, hx, h⟩ := Option.bind_eq_some_iff.1 h
    obtain ⟨i, hi, rfl⟩ := Option.map_eq_some_iff.1 hx
    obtain ⟨xs, hxs, h⟩ := Option.bind_eq_some_iff.1 h
    cases h
    have := ih xs hxs
    have hs : (sizeOf f.type).run P w = .ok i.size w := by simp [sizeOf, typeInfo, hi]
    simp only [List.mapM_cons, Sem.run_bind, hs, this, Result.andThen_ok, Sem.run_pure]

theorem aBuild_run {t : TypeId} {parts parts' : List (Nat × Value)} {v : Value} {w : World} (ha : aBuild P t parts = some v) (hl : parts.length = parts'.length)
    (hp : ∀ (j : Nat) x y, parts[j]? = some x → parts'[j]? = some y → x.1 = y.1 ∧ VR P ι x.2 y.2) : ∃ v', (Instr.build t parts'.toArray).run P w = .ok v' w ∧ VR P ι v v' := by
  unfold aBuild at ha
  obtain ⟨ti, hti, ha⟩ := Option.bind_eq_some_iff.1 ha
  obtain ⟨i, d, z, hi, hd, hz, rfl⟩ := tinfo_some hti
  obtain ⟨pl, hpl, ha⟩ := Option.bind_eq_some_iff.1 ha
  split at ha
  · rename_i hfl
    obtain ⟨cs, hcs, rfl⟩ := Option.map_eq_some_iff.1 ha
    obtain ⟨cs', h1, h2⟩ := aFill_run parts parts' _ _ cs hcs (VRL.flat (P := P) (ι := ι) hfl) hl hp
    refine ⟨.agg cs'.toArray, ?_, .agg _ _ (by simp [h2.1]) (fun i x y hx hy => h2.2 i x y (by simpa using hx) (by simpa using hy))⟩
    unfold places at hpl
    split at hpl
    · rename_i fs hfs
      have hm := mapM_places (P := P) w fs.toList pl hpl
      have hm' : (fs.mapM fun f => (do pure (f.offset, ← sizeOf f.type) : Sem (Nat × Nat))).run P w = .ok pl.toArray w := by
        rw [Array.mapM_eq_mapM_toList]
        simp only [Sem.run_map, hm, Result.andThen_ok]
      simp only [Array.toArray_toList] at h1
      have e : (fun (i : Nat) => pl.toArray[i]?) = (fun (i : Nat) => pl[i]?) := by funext i; simp
      have h1' : Instr.fill (fun x => pl.toArray[x]?) z.cells parts' = some cs'.toArray := by rw [e]; exact h1
      simp only [Instr.build, Sem.run_bind, zeroValue, typeInfo, run_program, Result.andThen_ok, hi, hz, Sem.run_pure, run_underlying hfs, hm', h1']
    · cases hpl
  · cases ha

theorem aZeros_eq (z : List Value) (n : Nat) (s : Nat) (hs : z.length = s) : aZeros z n = (madeCells z.toArray (n * s)).toList := by
  subst hs
  apply List.ext_getElem?
  intro i
  unfold aZeros madeCells
  by_cases hz : z = []
  · subst hz; simp
  · have hpos : 0 < z.length := List.length_pos_iff.2 hz
    by_cases hi : i < n * z.length
    · have hr : (List.replicate n z).flatten[i]? = z[i % z.length]? := by
        induction n generalizing i with
        | zero => simp at hi
        | succ n ih =>
          rw [List.replicate_succ, List.flatten_cons]
          by_cases h : i < z.length
          · rw [List.getElem?_append_left h, Nat.mod_eq_of_lt h]
          · rw [List.getElem?_append_right (by omega), ih (i - z.length) (by rw [Nat.succ_mul] at hi; omega)]
            congr 1
            rw [Nat.mod_eq_sub_mod (by omega : z.length ≤ i)]
      rw [hr]
      have hm := Nat.mod_lt i hpos
      simp [hi, hm, getElem!_pos]
    · rw [List.getElem?_eq_none (by simp; omega), List.getElem?_eq_none (by simp; omega)]

theorem aZeros_flat {z : List Value} (n : Nat) (h : z.all AM.flat = true) : (aZeros z n).all AM.flat = true := by
  rw [List.all_eq_true] at h ⊢
  intro x hx
  unfold aZeros at hx
  rw [List.mem_flatten] at hx
  obtain ⟨l, hl, hxl⟩ := hx
  rw [List.eq_of_mem_replicate hl] at hxl
  exact h x hxl

theorem slice_new (h : AHeap) (l : Loc) (n c : Nat) (ho : l.off = 0) (hn : n ≤ c) (hm : c ≤ maxLen) : VR P (upd1 ι h.length l) (.slice (some ⟨h.length, 0, none⟩) n c) (.slice (some ⟨l.block, 0, none⟩) n c) :=
  .slice _ _ _ _ _ _ _ l (upd1_self _ _ _) rfl (.inl (by rw [ho])) hn hm (.inr rfl) (fun hb _ => by exfalso; simp only [maxLen] at hm; simp only [big] at hb; omega)

theorem aBuildSlice_run {t : TypeId} {len : Nat} {parts parts' : List (Nat × Value)} {v : Value} {h h' : AHeap} {w : World} (ha : aBuildSlice P t len parts h = some (v, h')) (hl : parts.length = parts'.length)
    (hp : ∀ (j : Nat) x y, parts[j]? = some x → parts'[j]? = some y → x.1 = y.1 ∧ VR P ι x.2 y.2) (hi : Inv base ι w) (hf : Free ι h.length h'.length) :
    ∃ v' w' ι', (Instr.buildSlice t len parts'.toArray).run P w = .ok v' w' ∧ VR P ι' v v' ∧ Post P base [] ι ι' h h' w w' := by
  unfold aBuildSlice at ha
  obtain ⟨e, he, ha⟩ := Option.bind_eq_some_iff.1 ha
  obtain ⟨ti, hti, ha⟩ := Option.bind_eq_some_iff.1 ha
  obtain ⟨i, d, z, hii, hd, hz, rfl⟩ := tinfo_some hti
  have hu := selem_some he
  split at ha
  · rename_i hc
    obtain ⟨hlen, hlm, hfl, hzs⟩ := hc
    obtain ⟨cs, hcs, ha⟩ := Option.map_eq_some_iff.1 ha
    cases ha
    simp only at hlen hfl hzs hcs
    obtain ⟨cs', h1, h2⟩ := aFill_run parts parts' _ _ cs hcs (VRL.flat (P := P) (ι := ι) (aZeros_flat len hfl)) hl hp
    have := Post.newv hi (free_new hf) e h2
    refine ⟨_, _, _, ?_, slice_new h _ _ _ rfl (Nat.le_refl _) (by simp only [maxLen]; omega), this.1⟩
    have hzz := aZeros_eq z.cells.toList len i.size hzs
    rw [hzz] at h1
    simp only [Array.toArray_toList] at h1
    have hb : ¬ len * i.size > 2 ^ 24 := by omega
    by_cases h0 : len * i.size = 0
    · have em : madeCells z.cells 0 = (Array.range 0).map ((#[] : Array Value)[· % (#[] : Array Value).size]!) := by simp [madeCells]
      rw [h0, em] at h1
      simp only [Instr.buildSlice, Sem.run_bind, run_underlying hu, Result.andThen_ok, sizeOf, typeInfo, run_program, hii, Sem.run_pure, if_neg hb, if_pos h0]
      rw [h0]
      simp only [h1, newRow, Sem.run_bind, run_newObj, Result.andThen_ok, Sem.run_pure]
    · simp only [Instr.buildSlice, Sem.run_bind, run_underlying hu, Result.andThen_ok, sizeOf, typeInfo, run_program, hii, Sem.run_pure, if_neg hb, if_neg h0, zeroValue, hz]
      unfold madeCells at h1
      simp only [h1, newRow, Sem.run_bind, run_newObj, Result.andThen_ok, Sem.run_pure]
  · cases ha

theorem aMake_run {t : TypeId} {l c v l' c' : Value} {h h' : AHeap} {w : World} (ha : aMake P t l c h = some (v, h')) (hl : VR P ι l l') (hc : VR P ι c c') (hi : Inv base ι w) (hf : Free ι h.length h'.length) :
    ∃ v' w' ι', (Instr.makeSlice t l' c').run P w = .ok v' w' ∧ VR P ι' v v' ∧ Post P base [] ι ι' h h' w w' := by
  unfold aMake at ha
  split at ha
  · rename_i k1 ln k2 cn
    cases hl; cases hc
    obtain ⟨e, he, ha⟩ := Option.bind_eq_some_iff.1 ha
    obtain ⟨ti, hti, ha⟩ := Option.bind_eq_some_iff.1 ha
    obtain ⟨i, d, z, hii, hd, hz, rfl⟩ := tinfo_some hti
    have hu := selem_some he
    split at ha
    · rename_i hcd
      obtain ⟨h0, hlc, hb, h63, hfl, hzs⟩ := hcd
      cases ha
      have := Post.newv hi (free_new hf) e (VRL.flat (P := P) (ι := ι) (aZeros_flat cn.toNat hfl))
      have hrun := run_make (P := P) w t e i z hu hii hz k1 k2 ln cn h0 hlc (by rw [Int.mul_comm]; simp only at hb; omega) (by omega)
      have hzz := aZeros_eq z.cells.toList cn.toNat i.size hzs
      have h2 := this.1
      simp only at hzz h2
      rw [hzz] at h2
      exact ⟨_, _, _, hrun, slice_new h _ _ _ rfl (Int.toNat_le_toNat hlc) (by simp only [maxLen]; omega), by rw [hzz]; simpa using h2⟩
    · cases ha
  · cases ha
end
end Go.AM

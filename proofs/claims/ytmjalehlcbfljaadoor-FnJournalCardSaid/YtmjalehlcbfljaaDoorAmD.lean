/- A part of the abstract machine's laws: steps, calls and loops over abstract heaps. -/
import Derived.Test.YtmjalehlcbfljaaDoorAmC
set_option linter.unusedSectionVars false
set_option linter.defProp false
set_option linter.unusedVariables false
set_option linter.unusedSimpArgs false
set_option linter.unnecessarySimpa false
namespace Go.AM
open Go
variable [Ground]

def idOf : Value → List Nat
  | .pointer (some a) => [a.block]
  | .slice (some a) _ _ => [a.block]
  | _ => []

/-! ### reading, writing -/
def aLoad (P : Program) (t : TypeId) (a : Value) (h : AHeap) : Option Value :=
  match a with
  | .pointer (some ⟨id, off, none⟩) => (tinfo P t).bind fun ti => if ti.agg = true then (hread h id off ti.size).map fun cs => .agg cs.toArray else hget h id off
  | _ => none
def aStore (P : Program) (t : TypeId) (a v : Value) (h : AHeap) : Option AHeap :=
  match a with
  | .pointer (some ⟨id, off, none⟩) => (tinfo P t).bind fun ti => if isVal v = true ∧ v.cells.size = ti.size then hset h id off v.cells.toList else none
  | _ => none
def aBox (t : TypeId) (v : Value) (h : AHeap) : Option (Value × AHeap) :=
  if isVal v = true then some (.pointer (some ⟨h.length, 0, none⟩), hnew h v.cells.toList t) else none
def aAlloc (P : Program) (t : TypeId) (h : AHeap) : Option (Value × AHeap) :=
  (tinfo P t).bind fun ti => if ti.zero.all flat = true then some (.pointer (some ⟨h.length, 0, none⟩), hnew h ti.zero t) else none
def aField (P : Program) (s : TypeId) (a : Value) (f : Nat) : Option Value :=
  match a with
  | .pointer (some ⟨id, off, none⟩) => (fieldOff P s f).map fun d => .pointer (some ⟨id, off + d, none⟩)
  | _ => none
def aIndexAddr (P : Program) (t : TypeId) (x i : Value) : Option Value :=
  match x, i with
  | .slice (some ⟨id, off, none⟩) n _, .int _ j => (selem P t).bind fun e => (tinfo P e).bind fun ti => if 0 ≤ j ∧ j < (n : Int) then some (.pointer (some ⟨id, off + j.toNat * ti.size, none⟩)) else none
  | _, _ => none
def aIndex (P : Program) (t : TypeId) (x i : Value) : Option Value :=
  match x, i with
  | .string s, .int _ j => if isStrT P t = true ∧ 0 ≤ j then (s[j.toNat]?).map fun b => .int .u8 b.toNat else none
  | _, _ => none
def aLen (P : Program) (t : TypeId) (x : Value) : Option Value :=
  match x with
  | .string s => if isStrT P t = true then some (.int .i64 s.size) else none
  | .slice _ n _ => if (selem P t).isSome = true then some (.int .i64 n) else none
  | _ => none
def aBnd (v : Option Value) (d y : Nat) : Option Nat :=
  match v with
  | none => some d
  | some (.int _ i) => if 0 ≤ i ∧ i ≤ (y : Int) then some i.toNat else none
  | _ => none
def aSlice (P : Program) (t : TypeId) (x : Value) (lo hi mx : Option Value) : Option Value :=
  match x with
  | .string s => if isStrT P t = true ∧ mx.isNone = true then (aBnd hi s.size s.size).bind fun h => (aBnd lo 0 h).map fun l => .string (s.extract l h) else none
  | .slice none 0 0 => (selem P t).bind fun e => (tinfo P e).bind fun _ => if mx.isNone = true then (aBnd hi 0 0).bind fun h => (aBnd lo 0 h).map fun _ => .slice none 0 0 else none
  | .slice (some ⟨id, off, none⟩) n c => (selem P t).bind fun e => (tinfo P e).bind fun ti =>
      if c = big then
        if mx.isNone = true then (aBnd hi n n).bind fun h => (aBnd lo 0 h).map fun l => .slice (some ⟨id, off + l * ti.size, none⟩) (h - l) big else none
      else (aBnd mx c c).bind fun m => (aBnd hi n m).bind fun h => if mx.isSome = true ∧ hi.isNone = true then none else (aBnd lo 0 h).map fun l => .slice (some ⟨id, off + l * ti.size, none⟩) (h - l) (m - l)
  | _ => none
def aExtract (x : Value) (i : Nat) : Option Value :=
  match x with
  | .tuple vs => vs[i]?
  | _ => none
def aPick (c a b : Value) : Option Value :=
  match c with
  | .bool t => some (if t then a else b)
  | _ => none
def aBytesStr (P : Program) (s d : TypeId) (x : Value) (h : AHeap) : Option Value :=
  if isStrT P d = true then
    (selem P s).bind fun e => match P.underlying e with
      | some (.int .u8) => match x with
        | .slice none 0 0 => some (.string ⟨#[]⟩)
        | .slice (some ⟨id, off, none⟩) n _ => (hread h id off n).bind fun cs => (bytesOf cs).map fun l => .string ⟨l.toArray⟩
        | _ => none
      | _ => none
  else none

section
variable {P : Program} {ι : Inj} {base : Nat}

theorem VR.ptr_inv {id off : Nat} {v : Value} (h : VR P ι (.pointer (some ⟨id, off, none⟩)) v) : ∃ l, ι id = some l ∧ v = .pointer (some ⟨l.block, l.off + off, none⟩) := by
  cases h with
  | ptr _ _ b o l h hb ho => exact ⟨l, h, by rw [hb, ho]⟩

theorem aLoad_run {t : TypeId} {a v a' : Value} {h : AHeap} {w : World} (ha : aLoad P t a h = some v) (hv : VR P ι a a')
    (hobj : ∀ k ∈ idOf a, ∀ o l, h[k]? = some o → ι k = some l → ObjOK P ι o l w) : ∃ v', (Instr.loadAt t a').run P w = .ok v' w ∧ VR P ι v v' := by
  unfold aLoad at ha
  split at ha
  · rename_i id off
    obtain ⟨l, hl, rfl⟩ := hv.ptr_inv
    obtain ⟨ti, hti, ha⟩ := Option.bind_eq_some_iff.1 ha
    obtain ⟨i, d, z, hi, hd, hz, rfl⟩ := tinfo_some hti
    have hob : ∀ o, h[id]? = some o → ObjOK P ι o l w := fun o ho => hobj id (by simp [idOf]) o l ho hl
    split at ha
    · rename_i hagg
      obtain ⟨cs, hcs, rfl⟩ := Option.map_eq_some_iff.1 ha
      obtain ⟨cs', hrun, hvr, _, _⟩ := hread_run hcs hob
      refine ⟨.agg cs'.toArray, ?_, .agg _ _ (by simp [hvr.1]) (fun i x y hx hy => hvr.2 i x y (by simpa using hx) (by simpa using hy))⟩
      have : isAggD d = true := hagg
      cases d <;> simp_all [isAggD, Instr.loadAt, Instr.sureAddr, loadVar, isAgg, run_underlying hd, sizeOf, typeInfo]
    · rename_i hagg
      obtain ⟨v', hc, hvr⟩ := hget_run ha hob
      refine ⟨v', ?_, hvr⟩
      have : isAggD d = false := by simpa using hagg
      cases d <;> simp_all [isAggD, Instr.loadAt, Instr.sureAddr, loadVar, isAgg, run_underlying hd]
  · cases ha

theorem aStore_run {t : TypeId} {a v a' v' : Value} {h h' : AHeap} {w : World} (ha : aStore P t a v h = some h') (hva : VR P ι a a') (hv : VR P ι v v') (hi : Inv base ι w)
    (hobj : ∀ k ∈ idOf a, ∀ o l, h[k]? = some o → ι k = some l → ObjOK P ι o l w) : ∃ w', (Instr.storeAt t a' v').run P w = .ok () w' ∧ Post P base (idOf a) ι ι h h' w w' := by
  unfold aStore at ha
  split at ha
  · rename_i id off
    obtain ⟨l, hl, rfl⟩ := hva.ptr_inv
    obtain ⟨ti, hti, ha⟩ := Option.bind_eq_some_iff.1 ha
    obtain ⟨i, d, z, hii, hd, hz, rfl⟩ := tinfo_some hti
    split at ha
    · rename_i hc
      obtain ⟨hval, hsz⟩ := hc
      obtain ⟨hcl, h1⟩ := hv.cells hval
      obtain ⟨w', hrun, hpost⟩ := hset_run ha hi hl (fun o ho => hobj id (by simp [idOf]) o l ho hl) hcl h1
      refine ⟨w', ?_, hpost⟩
      have e : v'.cells.size = i.size := by have h0 := hcl.1; simp only [Array.length_toList] at h0; rw [← h0]; exact hsz
      simp [Instr.storeAt, Instr.sureAddr, storeVar, sizeOf, typeInfo, hii, e, hrun]
    · cases ha
  · cases ha

theorem Post.newv {h : AHeap} {w : World} (hi : Inv base ι w) (hf : ι h.length = none) {cells cs : List Value} (t : TypeId) (hv : VRL P ι cells cs) :
    Post P base [] ι (upd1 ι h.length ⟨w.heap.size, 0, true, t, cs.length⟩) h (hnew h cells t) w { w with heap := w.heap.push (.cells cs.toArray t) } ∧
    Sub ι (upd1 ι h.length ⟨w.heap.size, 0, true, t, cs.length⟩) := by
  refine ⟨?_, fun k l hk => ?_⟩
  · have := Post.new' (P := P) hi hf cells t cs.toArray (by simp [hv.1]) (fun ι' hs i v hiv => by
      obtain ⟨v', h1, h2⟩ := hv.get i hiv
      exact ⟨v', by simpa using h1, h2.mono hs⟩)
    simpa [hnew] using this
  · by_cases e : k = h.length
    · subst e; rw [hf] at hk; cases hk
    · rw [upd1_ne _ _ _ e]; exact hk

theorem VRL.flat {l : List Value} (hl : l.all AM.flat = true) : VRL P ι l l :=
  ⟨rfl, fun i x y hx hy => by
    rw [hx] at hy; cases hy
    rw [List.all_eq_true] at hl
    exact VR.flat (hl x (List.mem_of_getElem? hx))⟩

theorem free_new {h : AHeap} {cells : List Value} {t : TypeId} (hf : Free ι h.length (hnew h cells t).length) : ι h.length = none := hf _ (Nat.le_refl _) (by simp [hnew])

theorem ptr_new (h : AHeap) (l : Loc) (ho : l.off = 0) : VR P (upd1 ι h.length l) (.pointer (some ⟨h.length, 0, none⟩)) (.pointer (some ⟨l.block, 0, none⟩)) :=
  .ptr _ _ _ _ l (upd1_self _ _ _) rfl (by rw [ho])

theorem aBox_run {t : TypeId} {v v' r : Value} {h h' : AHeap} {w : World} (ha : aBox t v h = some (r, h')) (hv : VR P ι v v') (hi : Inv base ι w) (hf : Free ι h.length h'.length) :
    ∃ r' w' ι', (Instr.box t v').run P w = .ok r' w' ∧ VR P ι' r r' ∧ Post P base [] ι ι' h h' w w' := by
  unfold aBox at ha
  split at ha
  · rename_i hval
    cases ha
    obtain ⟨hcl, _⟩ := hv.cells hval
    have := Post.newv hi (free_new hf) t hcl
    rw [Array.toArray_toList] at this
    exact ⟨_, _, _, rfl, ptr_new h _ rfl, this.1⟩
  · cases ha

theorem aAlloc_run {t : TypeId} {r : Value} {h h' : AHeap} {w : World} (ha : aAlloc P t h = some (r, h')) (hi : Inv base ι w) (hf : Free ι h.length h'.length) :
    ∃ r' w' ι', (Instr.alloc t true (.tuple #[])).run P w = .ok r' w' ∧ VR P ι' r r' ∧ Post P base [] ι ι' h h' w w' := by
  unfold aAlloc at ha
  obtain ⟨ti, hti, ha⟩ := Option.bind_eq_some_iff.1 ha
  obtain ⟨i, d, z, hii, hd, hz, rfl⟩ := tinfo_some hti
  split at ha
  · rename_i hfl
    cases ha
    have := Post.newv hi (free_new hf) t (VRL.flat (P := P) (ι := ι) hfl)
    simp only [Array.toArray_toList] at this
    refine ⟨_, _, _, ?_, ptr_new h _ rfl, this.1⟩
    simp [Instr.alloc, zeroValue, typeInfo, hii, hz, newVar, newRow]
  · cases ha

theorem aField_run {s : TypeId} {f : Nat} {a v a' : Value} {w : World} (ha : aField P s a f = some v) (hv : VR P ι a a') : ∃ v', (Instr.fieldAt s a' f).run P w = .ok v' w ∧ VR P ι v v' := by
  unfold aField at ha
  split at ha
  · rename_i id off
    obtain ⟨l, hl, rfl⟩ := hv.ptr_inv
    obtain ⟨d, hd, rfl⟩ := Option.map_eq_some_iff.1 ha
    unfold fieldOff at hd
    split at hd
    · rename_i fs hfs
      obtain ⟨fd, hfd, hd⟩ := Option.bind_eq_some_iff.1 hd
      obtain ⟨i, hi, hd⟩ := Option.bind_eq_some_iff.1 hd
      split at hd
      · cases hd
      · rename_i hsz
        cases hd
        refine ⟨.pointer (some ⟨l.block, l.off + (off + fd.offset), none⟩), ?_, .ptr _ _ _ _ l hl rfl rfl⟩
        have hadd : (⟨l.block, l.off + off, none⟩ : Addr).add fd.offset = ⟨l.block, l.off + (off + fd.offset), none⟩ := by
          unfold Addr.add; split
          · rename_i e; simp [e]
          · simp [Nat.add_assoc]
        simp [Instr.fieldAt, run_underlying hfs, hfd, Instr.sureAddr, fieldPlace, sizeOf, typeInfo, hi, hsz, hadd]
    · cases hd
  · cases ha

theorem VR.slice_inv {id off n c : Nat} {v : Value} (h : VR P ι (.slice (some ⟨id, off, none⟩) n c) v) : ∃ l o c', ι id = some l ∧ v = .slice (some ⟨l.block, o, none⟩) n c' ∧
    (o = l.off + off ∨ (n = 0 ∧ c' = 0)) ∧ n ≤ c' ∧ c' ≤ maxLen ∧ (c = big ∨ c' = c) ∧ (c = big → off = 0 → l.off = 0 ∧ c' * P.cellsOf l.elem ≤ l.size) := by
  cases h with
  | slice _ _ _ _ b o c' l h hb ho hn hm hc hs => exact ⟨l, o, c', h, by rw [hb], ho, hn, hm, hc, hs⟩

theorem aIndexAddr_run {t : TypeId} {x i v x' i' : Value} {w : World} (ha : aIndexAddr P t x i = some v) (hx : VR P ι x x') (hi : VR P ι i i') : ∃ v', (Instr.indexAt t x' i').run P w = .ok v' w ∧ VR P ι v v' := by
  unfold aIndexAddr at ha
  split at ha
  · rename_i id off n c k j
    obtain ⟨l, o, c', hl, rfl, ho, hn, hm, hc, hs⟩ := hx.slice_inv
    cases hi
    obtain ⟨e, he, ha⟩ := Option.bind_eq_some_iff.1 ha
    obtain ⟨ti, hti, ha⟩ := Option.bind_eq_some_iff.1 ha
    obtain ⟨inf, d, z, hii, hd, hz, rfl⟩ := tinfo_some hti
    have hu := selem_some he
    split at ha
    · rename_i hb
      cases ha
      have ho' : o = l.off + off := by
        rcases ho with h | ⟨h, _⟩
        · exact h
        · omega
      subst ho'
      refine ⟨.pointer (some ⟨l.block, l.off + (off + j.toNat * inf.size), none⟩), ?_, .ptr _ _ _ _ l hl rfl rfl⟩
      have hadd : (⟨l.block, l.off + off, none⟩ : Addr).add (j.toNat * inf.size) = ⟨l.block, l.off + (off + j.toNat * inf.size), none⟩ := by
        unfold Addr.add; split
        · rename_i e; simp [e]
        · simp [Nat.add_assoc]
      simp [Instr.indexAt, run_underlying hu, asIntOf, hb, sizeOf, typeInfo, hii, hadd]
    · cases ha
  · cases ha

theorem aIndex_run {t : TypeId} {x i v x' i' : Value} {w : World} (ha : aIndex P t x i = some v) (hx : VR P ι x x') (hi : VR P ι i i') : (Instr.index t x' i').run P w = .ok v w ∧ AM.flat v = true := by
  unfold aIndex at ha
  split at ha
  · cases hx; cases hi
    rename_i s k j
    split at ha
    · rename_i hc
      obtain ⟨b, hb, rfl⟩ := Option.map_eq_some_iff.1 ha
      have hu := isStrT_true hc.1
      refine ⟨?_, rfl⟩
      simp [Instr.index, run_underlying hu, asIntOf, hc.2, hb]
    · cases ha
  · cases ha

theorem aLen_run {t ty : TypeId} {x v x' : Value} {w : World} (ha : aLen P t x = some v) (hx : VR P ι x x') : (Builtin.len_ #[t] ty #[x']).run P w = .ok v w ∧ AM.flat v = true := by
  unfold aLen at ha
  split at ha
  · cases hx
    split at ha
    · rename_i hc
      cases ha
      exact ⟨by simp [Builtin.len_, run_underlying (isStrT_true hc), goInt], rfl⟩
    · cases ha
  · split at ha
    · rename_i hc
      cases ha
      obtain ⟨e, he⟩ := Option.isSome_iff_exists.1 hc
      have hu := selem_some he
      cases hx with
      | nilslice => exact ⟨by simp [Builtin.len_, run_underlying hu, goInt], rfl⟩
      | slice => exact ⟨by simp [Builtin.len_, run_underlying hu, goInt], rfl⟩
    · cases ha
  · cases ha

theorem aBnd_run {v v' : Option Value} {d y r : Nat} (ha : aBnd v d y = some r) (hv : ∀ x, v = some x → ∃ x', v' = some x' ∧ VR P ι x x') (hn : v = none → v' = none) (code : BoundsCode) (w : World) (y' : Nat) (hy : y ≤ y') :
    (v = none ∧ v' = none ∧ r = d) ∨ ∃ x', v' = some x' ∧ (Instr.sliceBound x' y' code).run P w = .ok r w ∧ r ≤ y ∧ v.isSome = true := by
  cases v with
  | none => simp [aBnd] at ha; exact .inl ⟨rfl, hn rfl, ha.symm⟩
  | some x =>
    obtain ⟨x', hx', hvr⟩ := hv x rfl
    cases x <;> simp only [aBnd, reduceCtorEq] at ha
    rename_i k i
    split at ha
    · rename_i hc
      cases ha; cases hvr
      exact .inr ⟨_, hx', run_sliceBound (P := P) (w := w) k i y' code hc.1 (by omega), by omega, rfl⟩
    · cases ha

theorem aExtract_run {x x' v : Value} {i : Nat} {w : World} (ha : aExtract x i = some v) (hx : VR P ι x x') : ∃ v', (Instr.extract x' i).run P w = .ok v' w ∧ VR P ι v v' := by
  unfold aExtract at ha
  split at ha
  · cases hx with
    | tuple a b h1 h2 =>
      have hlt := (Array.getElem?_eq_some_iff.1 ha).1
      have hlt' : i < b.size := by omega
      exact ⟨b[i], by simp [Instr.extract, hlt'], h2 i v _ ha (by simp [hlt'])⟩
  · cases ha
end
end Go.AM

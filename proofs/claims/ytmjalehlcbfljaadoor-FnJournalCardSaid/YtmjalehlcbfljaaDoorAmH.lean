/- A part of the abstract machine's laws: steps, calls and loops over abstract heaps. -/
import Derived.Test.YtmjalehlcbfljaaDoorAmG
set_option linter.unusedSectionVars false
set_option linter.defProp false
set_option linter.unusedVariables false
set_option linter.unusedSimpArgs false
set_option linter.unnecessarySimpa false
namespace Go.AM
open Go
variable [Ground]

def aCopy (P : Program) (t : TypeId) (d s : Value) (h : AHeap) : Option (Value × AHeap) :=
  (selem P t).bind fun e => (tinfo P e).bind fun ti =>
    match d, s with
    | .slice (some ⟨di, doff, none⟩) dn _, .slice (some ⟨si, soff, none⟩) sn _ =>
      if min sn dn = 0 then some (.int .i64 0, h)
      else (hread h si soff (min sn dn * ti.size)).bind fun cs => if cs.all isCell = true then (hset h di doff cs).map fun h' => (.int .i64 (min sn dn : Nat), h') else none
    | .slice _ _ _, .slice none 0 0 => some (.int .i64 0, h)
    | .slice none 0 0, .slice _ _ _ => some (.int .i64 0, h)
    | _, _ => none
def wCopy (d s : Value) : List Nat :=
  match d, s with
  | .slice (some a) dn _, .slice (some _) sn _ => if min sn dn = 0 then [] else [a.block]
  | _, _ => []
def aClear (P : Program) (t : TypeId) (x : Value) (h : AHeap) : Option (Value × AHeap) :=
  (selem P t).bind fun e => (tinfo P e).bind fun ti =>
    match x with
    | .slice (some ⟨id, off, none⟩) n _ => if n = 0 then some (.tuple #[], h) else if ti.zero.all flat = true ∧ ti.zero.all isCell = true ∧ ti.zero.length = ti.size then (hset h id off (aZeros ti.zero n)).map fun h' => (.tuple #[], h') else none
    | .slice none 0 0 => some (.tuple #[], h)
    | _ => none
def wClear (x : Value) : List Nat :=
  match x with
  | .slice (some a) n _ => if n = 0 then [] else [a.block]
  | _ => []

section
variable {P : Program} {ι : Inj} {base : Nat}

theorem aCopy_run {t ty : TypeId} {d s v d' s' : Value} {h h' : AHeap} {w : World} (ha : aCopy P t d s h = some (v, h')) (hd : VR P ι d d') (hs : VR P ι s s') (hi : Inv base ι w)
    (hobj : ∀ k ∈ idOf d ++ idOf s, ∀ o l, h[k]? = some o → ι k = some l → ObjOK P ι o l w) :
    ∃ w', (Builtin.copy_ #[t, t] ty #[d', s']).run P w = .ok v w' ∧ AM.flat v = true ∧ Post P base (wCopy d s) ι ι h h' w w' := by
  unfold aCopy at ha
  obtain ⟨e, he, h1a⟩ := Option.bind_eq_some_iff.1 ha
  clear ha
  obtain ⟨ti, hti, ha⟩ := Option.bind_eq_some_iff.1 h1a
  clear h1a
  obtain ⟨i, de, z, hii, hde, hz, rfl⟩ := tinfo_some hti
  have hu := selem_some he
  split at ha
  · rename_i di doff dn dc si soff sn sc
    obtain ⟨ld, od, cd, hld, rfl, hod, hnd, hmd, hcd, hsd⟩ := hd.slice_inv
    obtain ⟨ls, os, cs', hls, rfl, hos, hns, hms, hcs, hss⟩ := hs.slice_inv
    split at ha
    · rename_i h0
      cases ha
      have h0' : Nat.min sn dn = 0 := h0
      refine ⟨w, ?_, rfl, by simp only [wCopy, if_pos h0]; exact .refl hi⟩
      simp [Builtin.copy_, run_underlying hu, Builtin.lenOf, sizeOf, typeInfo, hii, h0', Builtin.firstCells, loadCells, loadCellsFrom, storeCells, goInt]
    · rename_i h0
      obtain ⟨cs, hcs0, h2a⟩ := Option.bind_eq_some_iff.1 ha
      split at h2a
      · rename_i hall
        obtain ⟨h2, hset, h3a⟩ := Option.map_eq_some_iff.1 h2a
        cases h3a
        have e1 : od = ld.off + doff := by
          rcases hod with h | ⟨h, _⟩
          · exact h
          · omega
        have e2 : os = ls.off + soff := by
          rcases hos with h | ⟨h, _⟩
          · exact h
          · omega
        subst e1; subst e2
        obtain ⟨cs2, k1, k2, k3, k4⟩ := hread_run hcs0 (l := ls) (fun ob hob => hobj si (by simp [idOf]) ob ls hob hls)
        obtain ⟨w', hst, hp⟩ := hset_run hset hi hld (fun ob hob => hobj di (by simp [idOf]) ob ld hob hld) k2 (k2.oneCell hall)
        refine ⟨w', ?_, rfl, by simp only [wCopy, if_neg h0]; exact hp⟩
        have hmin : Nat.min sn dn = min sn dn := rfl
        simp [Builtin.copy_, run_underlying hu, Builtin.lenOf, sizeOf, typeInfo, hii, hmin, Builtin.firstCells, k1, hst, goInt]
      · cases h2a
  · rename_i a0 n0 c0
    cases ha
    cases hs
    have : wCopy (.slice a0 n0 c0) (.slice none 0 0) = [] := by unfold wCopy; split <;> simp_all
    rw [this]
    refine ⟨w, ?_, rfl, .refl hi⟩
    cases hd <;> simp [Builtin.copy_, run_underlying hu, Builtin.lenOf, sizeOf, typeInfo, hii, Builtin.firstCells, storeCells, goInt, Nat.min]
  · rename_i a0 n0 c0 _
    cases ha
    cases hd
    have : wCopy (.slice none 0 0) (.slice a0 n0 c0) = [] := by unfold wCopy; split <;> simp_all
    rw [this]
    refine ⟨w, ?_, rfl, .refl hi⟩
    cases hs <;> simp [Builtin.copy_, run_underlying hu, Builtin.lenOf, sizeOf, typeInfo, hii, Builtin.firstCells, storeCells, goInt, loadCells, loadCellsFrom, show ∀ n, Nat.min n 0 = 0 from fun n => Nat.min_zero n]
  · cases ha

theorem zeroCells_eq (z : Array Value) (n : Nat) : (Builtin.zeroCells z n).toList = aZeros z.toList n := by
  rw [aZeros_eq z.toList n z.size (by simp)]; simp [Builtin.zeroCells, madeCells]

theorem aClear_run {t ty : TypeId} {x v x' : Value} {h h' : AHeap} {w : World} (ha : aClear P t x h = some (v, h')) (hx : VR P ι x x') (hi : Inv base ι w)
    (hobj : ∀ k ∈ idOf x, ∀ o l, h[k]? = some o → ι k = some l → ObjOK P ι o l w) :
    ∃ w', (Builtin.clear_ #[t] ty #[x']).run P w = .ok v w' ∧ v = .tuple #[] ∧ Post P base (wClear x) ι ι h h' w w' := by
  unfold aClear at ha
  obtain ⟨e, he, h1a⟩ := Option.bind_eq_some_iff.1 ha
  clear ha
  obtain ⟨ti, hti, ha⟩ := Option.bind_eq_some_iff.1 h1a
  clear h1a
  obtain ⟨i, de, z, hii, hde, hz, rfl⟩ := tinfo_some hti
  have hu := selem_some he
  split at ha
  · rename_i id off n c
    obtain ⟨l, o, c', hl, rfl, ho, hn, hm, hc, hs⟩ := hx.slice_inv
    split at ha
    · rename_i h0
      subst h0
      cases ha
      exact ⟨w, by simp [Builtin.clear_, run_underlying hu], rfl, by simp only [wClear, if_true]; exact .refl hi⟩
    · rename_i h0
      split at ha
      · rename_i hcd
        obtain ⟨hfl, hall, hzs⟩ := hcd
        obtain ⟨h2, hset, h3a⟩ := Option.map_eq_some_iff.1 ha
        cases h3a
        have e1 : o = l.off + off := by
          rcases ho with h | ⟨h, _⟩
          · exact h
          · omega
        subst e1
        have hv := VRL.flat (P := P) (ι := ι) (aZeros_flat n hfl)
        have h1 : ∀ u ∈ aZeros z.cells.toList n, u.oneCell' = true := hv.oneCell (by
          rw [List.all_eq_true] at hall ⊢
          intro x hx
          unfold aZeros at hx
          rw [List.mem_flatten] at hx
          obtain ⟨q, hq, hxl⟩ := hx
          rw [List.eq_of_mem_replicate hq] at hxl
          exact hall x hxl)
        obtain ⟨w', hst, hp⟩ := hset_run hset hi hl (fun ob hob => hobj id (by simp [idOf]) ob l hob hl) hv h1
        refine ⟨w', ?_, rfl, by simp only [wClear, if_neg h0]; exact hp⟩
        obtain ⟨n, rfl⟩ : ∃ k, n = k + 1 := ⟨n - 1, by omega⟩
        simp only [] at hst
        rw [← zeroCells_eq] at hst
        simp [Builtin.clear_, run_underlying hu, zeroValue, typeInfo, hii, hz, hst]
      · cases ha
  · cases ha
    cases hx
    exact ⟨w, by simp [Builtin.clear_, run_underlying hu], rfl, by simp only [wClear]; exact .refl hi⟩
  · cases ha
end
end Go.AM

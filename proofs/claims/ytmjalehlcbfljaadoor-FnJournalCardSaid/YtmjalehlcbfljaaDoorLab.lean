/- A lab at the start holds no names and no streams. -/
import Derived.Test.YtmjalehlcbfljaaDoorDraw
set_option linter.unusedSectionVars false
set_option linter.defProp false
set_option linter.unusedVariables false
set_option linter.unusedSimpArgs false
set_option linter.unnecessarySimpa false
namespace Go.Proofs.YtmjalehlcbfljaaDoor
open Go Go.AM
set_option maxRecDepth 8000

/-- A lab at q, with its own rows from L on. -/
def LabAt (h : AHeap) (L q : Nat) (names : List (List UInt8)) (sc : List Value) : Prop :=
  ∃ nv sv, h[q]? = some ⟨[nv, sv], 28, true⟩ ∧ Own h L nv names.length 1 9 (names.map str) ∧ Own h L sv names.length 7 67 sc ∧
    (0 < names.length → sid nv ≠ q ∧ sid sv ≠ q ∧ sid sv ≠ sid nv) ∧ L ≤ q
theorem LabAt.app {h : AHeap} {L q : Nat} {names : List (List UInt8)} {sc : List Value} (l : LabAt h L q names sc) (t : AHeap) : LabAt (h ++ t) L q names sc := by
  obtain ⟨nv, sv, h1, h2, h3, h4⟩ := l
  exact ⟨nv, sv, at_app h1 t, h2.app t, h3.app t, h4⟩

theorem names_get (names : List (List UInt8)) (j : Nat) (hj : j < names.length) : (names.map str).getD j undef = str (names.getD j []) := by
  simp [List.getD_eq_getElem?_getD, hj]

theorem find_ok (h : AHeap) (L q : Nat) (names : List (List UInt8)) (sc : List Value) (nm : List UInt8) (hl : LabAt h L q names sc) (hn : names.length < 1000000) : ∃ v t, ACp Tryd.prog 36 [ptr q, str nm] h v t ∧ (∃ k : Int, v = .int .i64 k ∧ ((k = -1 ∧ nm ∉ names) ∨ (0 ≤ k ∧ k < names.length ∧ names.getD k.toNat [] = nm))) ∧ t = [] := by
  obtain ⟨nv, sv, ho, hro, hs, hown, hq⟩ := hl
  have hrd := rd_of ho
  have hr := hro.row
  refine ACp.walk Tryd.func36 rfl (by decide) (by kernel_rfl) mixed ?_
  simp (maxSteps := 4000000) (disch := (first | omega | (simp only [List.length_append, List.length_cons, List.length_nil, List.length_map, List.length_set]; omega))) only [wk, wb, run_block, run_seq, cnd_dec, cnd_ndec, hset_c0, wBuiltin, wAppend, wCopy, wClear, dsOf, ev, aput, aPick, aExtract, aBuiltin, aZeros, ↓reduceIte, Nat.reduceAdd, Nat.reduceSub, Nat.reduceMul, Nat.reduceEqDiff, reduceCtorEq, Int.reduceGT, Int.reduceLT, Int.reduceLE, Int.reduceGE, Int.reduceEq, Int.reduceToNat, Int.reduceAdd, Int.reduceSub, Int.reduceNeg, Int.reduceMul, Nat.reduceLeDiff, tys, Tryd.f36, ptr]
  refine RL.wf (α := Nat) (fun i => names.length - i) (fun i => flg 0 25 [(0, ptr q), (1, str nm), (5, .int .i64 (i : Int))]) (fun _ => frz h)
    (fun i => i ≤ names.length ∧ ∀ j, j < i → names.getD j [] ≠ nm) ?_ 0 ⟨by omega, by omega⟩ _ _ (by simp only [flg_z, flg_n, flg_c, ↓reduceIte, Nat.reduceEqDiff, Nat.reduceAdd]; repeat (first | exact FLe.nil | apply FLe.junk | apply FLe.same)) (HLe.refl _)
  rintro i ⟨h1, h2⟩ ih
  refine RL.round ?_
  simp (maxSteps := 4000000) (disch := (first | omega | (simp only [List.length_append, List.length_cons, List.length_nil, List.length_map, List.length_set]; omega))) only [wk, wb, run_block, run_seq, cnd_dec, cnd_ndec, hset_c0, wBuiltin, wAppend, wCopy, wClear, dsOf, ev, aput, aPick, aExtract, aBuiltin, aZeros, ↓reduceIte, Nat.reduceAdd, Nat.reduceSub, Nat.reduceMul, Nat.reduceEqDiff, reduceCtorEq, Int.reduceGT, Int.reduceLT, Int.reduceLE, Int.reduceGE, Int.reduceEq, Int.reduceToNat, Int.reduceAdd, Int.reduceSub, Int.reduceNeg, Int.reduceMul, Nat.reduceLeDiff, tys, ptr, hrd, hr.alen]
  refine ⟨fun hi => ?_, fun hi => ?_⟩
  · have hi' : i < names.length := by omega
    simp (maxSteps := 4000000) (disch := (first | omega | (simp only [List.length_append, List.length_cons, List.length_nil, List.length_map, List.length_set]; omega))) only [wk, wb, run_block, run_seq, cnd_dec, cnd_ndec, hset_c0, wBuiltin, wAppend, wCopy, wClear, dsOf, ev, aput, aPick, aExtract, aBuiltin, aZeros, ↓reduceIte, Nat.reduceAdd, Nat.reduceSub, Nat.reduceMul, Nat.reduceEqDiff, reduceCtorEq, Int.reduceGT, Int.reduceLT, Int.reduceLE, Int.reduceGE, Int.reduceEq, Int.reduceToNat, Int.reduceAdd, Int.reduceSub, Int.reduceNeg, Int.reduceMul, Nat.reduceLeDiff, tys, ptr, hrd, hr.alen, hr.idx, hr.cell, names_get]
    refine ⟨fun he => ?_, fun he => ?_⟩
    · exact ⟨[], by simp, ⟨i, rfl, .inr ⟨by omega, by omega, by simpa using he⟩⟩, rfl⟩
    · refine ih (i + 1) (by omega) ⟨by omega, fun j hj => ?_⟩ _ _ (by simp only [flg_z, flg_n, flg_c, ↓reduceIte, Nat.reduceEqDiff, Nat.reduceAdd]; repeat (first | exact FLe.nil | apply FLe.junk | apply FLe.same)) (HLe.refl _)
      by_cases e : j = i
      · subst e; exact he
      · exact h2 j (by omega)
  · refine ⟨[], by simp, ⟨-1, rfl, .inl ⟨rfl, fun hm => ?_⟩⟩, rfl⟩
    obtain ⟨j, hj, rfl⟩ := List.getElem_of_mem hm
    exact h2 j (by omega) (by simp [List.getD_eq_getElem?_getD, hj])

def isLow (b : UInt8) : Bool := decide (97 ≤ b.toNat) && decide (b.toNat ≤ 122)
def isName (l : List UInt8) : Bool := l.all isLow && decide (1 ≤ l.length) && decide (l.length ≤ 10)
theorem isName_ok (h : AHeap) (l : List UInt8) (hn : l.length < 4611686018427387904) : ∃ v t, ACp Tryd.prog 37 [str l] h v t ∧ v = .bool (isName l) ∧ t = [] := by
  refine ACp.walk Tryd.func37 rfl (by decide) (by kernel_rfl) mixed ?_
  simp (maxSteps := 4000000) (disch := (first | omega | (simp only [List.length_append, List.length_cons, List.length_nil, List.length_map, List.length_set]; omega))) only [wk, wb, run_block, run_seq, cnd_dec, cnd_ndec, hset_c0, wBuiltin, wAppend, wCopy, wClear, dsOf, ev, aput, aPick, aExtract, aBuiltin, aZeros, ↓reduceIte, Nat.reduceAdd, Nat.reduceSub, Nat.reduceMul, Nat.reduceEqDiff, reduceCtorEq, Int.reduceGT, Int.reduceLT, Int.reduceLE, Int.reduceGE, Int.reduceEq, Int.reduceToNat, Int.reduceAdd, Int.reduceSub, Int.reduceNeg, Int.reduceMul, Nat.reduceLeDiff, tys, Tryd.f37]
  refine RL.wf (α := Nat) (fun i => l.length - i) (fun i => flg 0 28 [(0, str l), (3, .int .i64 (i : Int))]) (fun _ => frz h)
    (fun i => i ≤ l.length ∧ ∀ j, j < i → isLow (l.getD j 0) = true) ?_ 0 ⟨by omega, by omega⟩ _ _ (by simp only [flg_z, flg_n, flg_c, ↓reduceIte, Nat.reduceEqDiff, Nat.reduceAdd]; repeat (first | exact FLe.nil | apply FLe.junk | apply FLe.same)) (HLe.refl _)
  rintro i ⟨h1, h2⟩ ih
  refine RL.round ?_
  simp (maxSteps := 4000000) (disch := (first | omega | (simp only [List.length_append, List.length_cons, List.length_nil, List.length_map, List.length_set]; omega))) only [wk, wb, run_block, run_seq, cnd_dec, cnd_ndec, hset_c0, wBuiltin, wAppend, wCopy, wClear, dsOf, ev, aput, aPick, aExtract, aBuiltin, aZeros, ↓reduceIte, Nat.reduceAdd, Nat.reduceSub, Nat.reduceMul, Nat.reduceEqDiff, reduceCtorEq, Int.reduceGT, Int.reduceLT, Int.reduceLE, Int.reduceGE, Int.reduceEq, Int.reduceToNat, Int.reduceAdd, Int.reduceSub, Int.reduceNeg, Int.reduceMul, Nat.reduceLeDiff, tys]
  have hfalse : ∀ (hi : i < l.length), isLow (l.getD i 0) = false → isName l = false := by
    intro hi hf
    have : l.all isLow = false := by
      rw [List.all_eq_false]
      exact ⟨l[i], List.getElem_mem hi, by simpa [List.getD_eq_getElem?_getD, hi] using hf⟩
    simp [isName, this]
  refine ⟨fun hi => ?_, fun hi => ?_⟩
  · have hi' : i < l.length := by omega
    simp (maxSteps := 4000000) (disch := (first | omega | (simp only [List.length_append, List.length_cons, List.length_nil, List.length_map, List.length_set]; omega))) only [wk, wb, run_block, run_seq, cnd_dec, cnd_ndec, hset_c0, wBuiltin, wAppend, wCopy, wClear, dsOf, ev, aput, aPick, aExtract, aBuiltin, aZeros, ↓reduceIte, Nat.reduceAdd, Nat.reduceSub, Nat.reduceMul, Nat.reduceEqDiff, reduceCtorEq, Int.reduceGT, Int.reduceLT, Int.reduceLE, Int.reduceGE, Int.reduceEq, Int.reduceToNat, Int.reduceAdd, Int.reduceSub, Int.reduceNeg, Int.reduceMul, Nat.reduceLeDiff, tys]
    refine ⟨fun hlo => ?_, fun hlo => ⟨fun hhi => ?_, fun hhi => ?_⟩⟩
    · exact ⟨[], by simp, by rw [hfalse hi' (by simp only [isLow, Bool.and_eq_false_iff, decide_eq_false_iff_not]; omega)], rfl⟩
    · exact ⟨[], by simp, by rw [hfalse hi' (by simp only [isLow, Bool.and_eq_false_iff, decide_eq_false_iff_not]; omega)], rfl⟩
    · refine ih (i + 1) (by omega) ⟨by omega, fun j hj => ?_⟩ _ _ (by simp only [flg_z, flg_n, flg_c, ↓reduceIte, Nat.reduceEqDiff, Nat.reduceAdd]; repeat (first | exact FLe.nil | apply FLe.junk | apply FLe.same)) (HLe.refl _)
      by_cases e : j = i
      · subst e; simp only [isLow, Bool.and_eq_true, decide_eq_true_eq]; omega
      · exact h2 j (by omega)
  · have hall : l.all isLow = true := by
      rw [List.all_eq_true]
      intro x hx
      obtain ⟨j, hj, rfl⟩ := List.getElem_of_mem hx
      have := h2 j (by omega)
      simpa [List.getD_eq_getElem?_getD, hj] using this
    refine ⟨fun hge => ?_, fun hge => ?_⟩
    · exact ⟨[], by simp, by congr 1; simp only [isName, hall, Bool.true_and]; rw [Bool.eq_iff_iff]; simp; omega, rfl⟩
    · exact ⟨[], by simp, by congr 1; simp only [isName, hall, Bool.true_and]; rw [Bool.eq_iff_iff]; simp; omega, rfl⟩
end Go.Proofs.YtmjalehlcbfljaaDoor

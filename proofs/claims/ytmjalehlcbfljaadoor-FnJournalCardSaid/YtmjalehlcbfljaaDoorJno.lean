/- The law FnJournal's inner loops. -/
import Derived.Test.YtmjalehlcbfljaaDoorWst
set_option linter.unusedSectionVars false
set_option linter.defProp false
set_option linter.unusedVariables false
set_option linter.unusedSimpArgs false
set_option linter.unnecessarySimpa false
namespace Go.Proofs.YtmjalehlcbfljaaDoor
open Go Go.AM
set_option maxRecDepth 8000
set_option maxHeartbeats 4000000
theorem jour_take (lines : List Bs) (i : Nat) : (jour 0 (lines.take i)).length ≤ (jour 0 lines).length := by
  conv => rhs; rw [← List.take_append_drop i lines]
  rw [jour_append]; simp
theorem jour_succ (lines : List Bs) (i : Nat) (hi : i < lines.length) : jour 0 (lines.take (i + 1)) = jour 0 (lines.take i) ++ jent (jchk 0 (lines.take i)) (lines.getD i []) ∧ jchk 0 (lines.take (i + 1)) = chkOf (jchk 0 (lines.take i)) (lines.getD i []) := by
  have e : lines.take (i + 1) = lines.take i ++ [lines.getD i []] := by
    rw [List.take_add_one, List.getElem?_eq_getElem hi, List.getD_eq_getElem?_getD, List.getElem?_eq_getElem hi]; rfl
  rw [e, jour_append, jchk_append]
  simp [jour, jchk]
theorem journal_ok (h : AHeap) (v : Value) (lines : List Bs) (hr : Row h v lines.length 1 (lines.map str)) (hnl : ∀ l ∈ lines, nlFree l) (hlen : (jour 0 lines).length ≤ 4000) (hn : lines.length ≤ 4000) :
    ∃ w t, ACp Tryd.prog 7 [v] h w t ∧ w = .tuple #[str (jour 0 lines), .bool true] := by
  obtain ⟨L, hL⟩ : ∃ L, h.length = L := ⟨_, rfl⟩
  have hLf : (frz h).length = L := by simpa using hL
  refine ACp.walk Tryd.func7 rfl (by decide) (by kernel_rfl) mixed ?_
  simp (maxSteps := 4000000) (disch := (first | omega | (simp only [List.length_append, List.length_cons, List.length_nil, List.length_map, List.length_set]; omega))) only [wk, wb, run_block, run_seq, cnd_dec, cnd_ndec, hset_c0, wBuiltin, wAppend, wCopy, wClear, dsOf, ev, aput, aPick, aExtract, aBuiltin, aZeros, ↓reduceIte, Nat.reduceAdd, Nat.reduceSub, Nat.reduceMul, Nat.reduceEqDiff, reduceCtorEq, Int.reduceGT, Int.reduceLT, Int.reduceLE, Int.reduceGE, Int.reduceEq, Int.reduceToNat, Int.reduceAdd, Int.reduceSub, Int.reduceNeg, Int.reduceMul, Nat.reduceLeDiff, tys, Tryd.f7, hL, hr.alen]
  refine RL.wf (α := Nat × Value × Value × AHeap) (fun x => lines.length - x.1) (fun x => flg 0 32 [(4, ptr L), (5, .int .i64 (jchk 0 (lines.take x.1) : Nat)), (8, v), (9, .int .i64 lines.length), (10, .int .i64 (x.1 : Int))]) (fun x => frz h ++ (⟨[x.2.1, x.2.2.1], tB, true⟩ :: x.2.2.2))
    (fun x => x.1 ≤ lines.length ∧ (x.2.1 = .pointer none ∨ x.2.1 = ptr L) ∧ Own (frz h ++ (⟨[x.2.1, x.2.2.1], tB, true⟩ :: x.2.2.2)) (L + 1) x.2.2.1 (jour 0 (lines.take x.1)).length 1 5 ((jour 0 (lines.take x.1)).map byteV) ∧ (x.1 = 0 → x.2.2.1 = .slice none 0 0)) ?_
    (0, .pointer none, .slice none 0 0, []) ⟨by omega, .inl rfl, Own.nil _ _ _ _, fun _ => rfl⟩ _ _ (by simp only [flg_z, flg_n, flg_c, ↓reduceIte, Nat.reduceEqDiff, Nat.reduceAdd]; repeat (first | exact FLe.nil | apply FLe.junk | apply FLe.same)) (HLe.refl _)
  rintro ⟨i, a, bv, t⟩ ⟨h1, h2, h3, h4⟩ ih
  simp only at h1 h2 h3 h4 ih
  refine RL.round ?_
  simp (maxSteps := 4000000) (disch := (first | omega | (simp only [List.length_append, List.length_cons, List.length_nil, List.length_map, List.length_set]; omega))) only [wk, wb, run_block, run_seq, cnd_dec, cnd_ndec, hset_c0, wBuiltin, wAppend, wCopy, wClear, dsOf, ev, aput, aPick, aExtract, aBuiltin, aZeros, ↓reduceIte, Nat.reduceAdd, Nat.reduceSub, Nat.reduceMul, Nat.reduceEqDiff, reduceCtorEq, Int.reduceGT, Int.reduceLT, Int.reduceLE, Int.reduceGE, Int.reduceEq, Int.reduceToNat, Int.reduceAdd, Int.reduceSub, Int.reduceNeg, Int.reduceMul, Nat.reduceLeDiff, tys, ptr, hLf, hr.frz.alen]
  refine ⟨fun hi => ?_, fun hi => ?_⟩
  · have hi' : i < lines.length := by omega
    have hrt := hr.frz.app (⟨[a, bv], tB, true⟩ :: t)
    have hln : lines.getD i [] ∈ lines := by rw [List.getD_eq_getElem?_getD, List.getElem?_eq_getElem hi']; exact List.getElem_mem hi'
    have hcell : ∀ j : Nat, j < lines.length → (lines.map str).getD j undef = str (lines.getD j []) := by
      intro j hj; simp [List.getD_eq_getElem?_getD, hj]
    obtain ⟨e1, e2⟩ := jour_succ lines i hi'
    have hle := jour_take lines (i + 1)
    have hck := jchk_lt (c := 0) (by omega) (lines.take i)
    generalize hl : lines.getD i [] = ln at *
    generalize hc : jchk 0 (lines.take i) = ck at *
    simp (maxSteps := 4000000) (disch := (first | omega | (simp only [List.length_append, List.length_cons, List.length_nil, List.length_map, List.length_set]; omega))) only [wk, wb, run_block, run_seq, cnd_dec, cnd_ndec, hset_c0, wBuiltin, wAppend, wCopy, wClear, dsOf, ev, aput, aPick, aExtract, aBuiltin, aZeros, ↓reduceIte, Nat.reduceAdd, Nat.reduceSub, Nat.reduceMul, Nat.reduceEqDiff, reduceCtorEq, Int.reduceGT, Int.reduceLT, Int.reduceLE, Int.reduceGE, Int.reduceEq, Int.reduceToNat, Int.reduceAdd, Int.reduceSub, Int.reduceNeg, Int.reduceMul, Nat.reduceLeDiff, tys, ptr, hLf, hrt.idx, hrt.cell, hcell, hl]
    have hlnl : ln.length ≤ 4000 := by rw [e1] at hle; simp [jent] at hle; omega
    obtain ⟨v1, t1, c1, rfl, rfl⟩ := checkOf_ok (frz h ++ (⟨[a, bv], tB, true⟩ :: t)) ck ln hck (by omega)
    refine acall.p c1 ?_
    simp (maxSteps := 4000000) (disch := (first | omega | (simp only [List.length_append, List.length_cons, List.length_nil, List.length_map, List.length_set]; omega))) only [wk, wb, run_block, run_seq, cnd_dec, cnd_ndec, hset_c0, wBuiltin, wAppend, wCopy, wClear, dsOf, ev, aput, aPick, aExtract, aBuiltin, aZeros, ↓reduceIte, Nat.reduceAdd, Nat.reduceSub, Nat.reduceMul, Nat.reduceEqDiff, reduceCtorEq, Int.reduceGT, Int.reduceLT, Int.reduceLE, Int.reduceGE, Int.reduceEq, Int.reduceToNat, Int.reduceAdd, Int.reduceSub, Int.reduceNeg, Int.reduceMul, Nat.reduceLeDiff, tys, ptr, hLf]
    have hck2 := chkOf_lt hck ln
    have hin : inI ((chkOf ck ln : Nat) : Int) := by unfold inI; omega
    obtain ⟨v2, t2, c2, rfl, rfl⟩ := fmt_ok (frz h ++ (⟨[a, bv], tB, true⟩ :: t)) (chkOf ck ln : Nat) hin
    refine acall.p c2 ?_
    have hdl := decB_len _ hin
    simp (maxSteps := 4000000) (disch := (first | omega | (simp only [List.length_append, List.length_cons, List.length_nil, List.length_map, List.length_set]; omega))) only [wk, wb, run_block, run_seq, cnd_dec, cnd_ndec, hset_c0, wBuiltin, wAppend, wCopy, wClear, dsOf, ev, aput, aPick, aExtract, aBuiltin, aZeros, ↓reduceIte, Nat.reduceAdd, Nat.reduceSub, Nat.reduceMul, Nat.reduceEqDiff, reduceCtorEq, Int.reduceGT, Int.reduceLT, Int.reduceLE, Int.reduceGE, Int.reduceEq, Int.reduceToNat, Int.reduceAdd, Int.reduceSub, Int.reduceNeg, Int.reduceMul, Nat.reduceLeDiff, tys, ptr, hLf]
    have hje : jent ck ln = decB (chkOf ck ln) ++ 32 :: (ln ++ [10]) := rfl
    obtain ⟨bv', t', c3, o3⟩ := wstr_ok (frz h) t a bv (jour 0 (lines.take i)) (jent ck ln) (jent_ne _ _) (by rw [hLf]; exact h2) (by rw [hLf]; exact h3) (by rw [e1] at hle; simp at hle; omega)
    rw [hLf, hje] at c3
    rw [hLf, ← e1] at o3
    refine acall.ac c3 ?_
    simp (maxSteps := 4000000) (disch := (first | omega | (simp only [List.length_append, List.length_cons, List.length_nil, List.length_map, List.length_set]; omega))) only [wk, wb, run_block, run_seq, cnd_dec, cnd_ndec, hset_c0, wBuiltin, wAppend, wCopy, wClear, dsOf, ev, aput, aPick, aExtract, aBuiltin, aZeros, ↓reduceIte, Nat.reduceAdd, Nat.reduceSub, Nat.reduceMul, Nat.reduceEqDiff, reduceCtorEq, Int.reduceGT, Int.reduceLT, Int.reduceLE, Int.reduceGE, Int.reduceEq, Int.reduceToNat, Int.reduceAdd, Int.reduceSub, Int.reduceNeg, Int.reduceMul, Nat.reduceLeDiff, tys, ptr, hLf]
    obtain ⟨v4, t4, c4, rfl, rfl⟩ := contains_ok (frz h ++ (⟨[ptr L, bv'], tB, true⟩ :: t')) ln 10
    refine acall.p c4 ?_
    have hno : decide ((10 : UInt8) ∈ ln) = false := decide_eq_false (hnl ln hln)
    rw [hno]
    simp (maxSteps := 4000000) (disch := (first | omega | (simp only [List.length_append, List.length_cons, List.length_nil, List.length_map, List.length_set]; omega))) only [wk, wb, run_block, run_seq, cnd_dec, cnd_ndec, hset_c0, wBuiltin, wAppend, wCopy, wClear, dsOf, ev, aput, aPick, aExtract, aBuiltin, aZeros, ↓reduceIte, Nat.reduceAdd, Nat.reduceSub, Nat.reduceMul, Nat.reduceEqDiff, reduceCtorEq, Int.reduceGT, Int.reduceLT, Int.reduceLE, Int.reduceGE, Int.reduceEq, Int.reduceToNat, Int.reduceAdd, Int.reduceSub, Int.reduceNeg, Int.reduceMul, Nat.reduceLeDiff, tys, ptr, hLf]
    have o3' := o3
    rw [← hLf] at o3'
    obtain ⟨v5, t5, c5, rfl, rfl⟩ := blen_ok (frz h) t' _ bv' _ _ o3'.row
    rw [hLf] at c5
    refine acall.p c5 ?_
    simp (maxSteps := 4000000) (disch := (first | omega | (simp only [List.length_append, List.length_cons, List.length_nil, List.length_map, List.length_set]; omega))) only [wk, wb, run_block, run_seq, cnd_dec, cnd_ndec, hset_c0, wBuiltin, wAppend, wCopy, wClear, dsOf, ev, aput, aPick, aExtract, aBuiltin, aZeros, ↓reduceIte, Nat.reduceAdd, Nat.reduceSub, Nat.reduceMul, Nat.reduceEqDiff, reduceCtorEq, Int.reduceGT, Int.reduceLT, Int.reduceLE, Int.reduceGE, Int.reduceEq, Int.reduceToNat, Int.reduceAdd, Int.reduceSub, Int.reduceNeg, Int.reduceMul, Nat.reduceLeDiff, tys, ptr, hLf]
    refine ⟨fun hx => by exfalso; omega, fun _ => ?_⟩
    refine ih (i + 1, ptr L, bv', t') (by simp only; omega) ⟨by simp only; omega, .inr rfl, o3, fun h => by simp at h⟩ _ _ ?_ (HLe.refl _)
    simp only [e2]
    exact (by simp only [flg_z, flg_n, flg_c, ↓reduceIte, Nat.reduceEqDiff, Nat.reduceAdd]; repeat (first | exact FLe.nil | apply FLe.junk | apply FLe.same))
  · have hil : i = lines.length := by omega
    subst hil
    rw [List.take_length] at h3
    by_cases h0 : lines.length = 0
    · have hz : lines = [] := List.length_eq_zero_iff.1 h0
      have hb := h4 h0
      subst hb
      have hc := str_nil (frz h ++ (⟨[a, .slice none 0 0], tB, true⟩ :: t)) L a (by rw [List.getElem?_append_right (by omega), hLf]; simp)
      refine acall.ac hc ?_
      simp (maxSteps := 4000000) (disch := (first | omega | (simp only [List.length_append, List.length_cons, List.length_nil, List.length_map, List.length_set]; omega))) only [wk, wb, run_block, run_seq, cnd_dec, cnd_ndec, hset_c0, wBuiltin, wAppend, wCopy, wClear, dsOf, ev, aput, aPick, aExtract, aBuiltin, aZeros, ↓reduceIte, Nat.reduceAdd, Nat.reduceSub, Nat.reduceMul, Nat.reduceEqDiff, reduceCtorEq, Int.reduceGT, Int.reduceLT, Int.reduceLE, Int.reduceGE, Int.reduceEq, Int.reduceToNat, Int.reduceAdd, Int.reduceSub, Int.reduceNeg, Int.reduceMul, Nat.reduceLeDiff, tys, ptr, hLf]
      exact ⟨_, rfl, by rw [hz]; rfl⟩
    · have hpos : jour 0 lines ≠ [] := by
        intro he
        have := jour_count 0 lines hnl
        rw [he] at this; simp at this; omega
      obtain ⟨id, f1, f2, f3⟩ := h3.slice (List.length_pos_iff.2 hpos)
      subst f1
      have hc := str_some (frz h ++ (⟨[a, .slice (some ⟨id, 0, none⟩) (jour 0 lines).length big], tB, true⟩ :: t)) L id a (jour 0 lines) hpos (by rw [List.getElem?_append_right (by omega), hLf]; simp) f3 (by omega)
      refine acall.ac hc ?_
      simp (maxSteps := 4000000) (disch := (first | omega | (simp only [List.length_append, List.length_cons, List.length_nil, List.length_map, List.length_set]; omega))) only [wk, wb, run_block, run_seq, cnd_dec, cnd_ndec, hset_c0, wBuiltin, wAppend, wCopy, wClear, dsOf, ev, aput, aPick, aExtract, aBuiltin, aZeros, ↓reduceIte, Nat.reduceAdd, Nat.reduceSub, Nat.reduceMul, Nat.reduceEqDiff, reduceCtorEq, Int.reduceGT, Int.reduceLT, Int.reduceLE, Int.reduceGE, Int.reduceEq, Int.reduceToNat, Int.reduceAdd, Int.reduceSub, Int.reduceNeg, Int.reduceMul, Nat.reduceLeDiff, tys, ptr, hLf]
      exact ⟨_, List.set_append_right _ _ (by omega)⟩
end Go.Proofs.YtmjalehlcbfljaaDoor

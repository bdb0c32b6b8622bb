/- Recovering a journal answers its longest good prefix. -/
import Derived.Test.YtmjalehlcbfljaaDoorLib
set_option linter.unusedSectionVars false
set_option linter.defProp false
set_option linter.unusedVariables false
set_option linter.unusedSimpArgs false
set_option linter.unnecessarySimpa false
namespace Go.Proofs.YtmjalehlcbfljaaDoor
open Go Go.AM
set_option maxRecDepth 8000
set_option maxHeartbeats 4000000
theorem cutB_none {s : Bs} {c : UInt8} (h : idx c s = none) : cutB s c = (s, [], false) := by simp [cutB, h]
theorem cutB_some {s : Bs} {c : UInt8} {i : Nat} (h : idx c s = some i) : cutB s c = (s.take i, s.drop (i + 1), true) := by simp [cutB, h]
theorem recover_ok (h : AHeap) (s : Bs) (hs : s.length ≤ 4000) : ∃ v t, ACp Tryd.prog 9 [str s] h v t ∧ ∃ (w : Value) (out : List Bs) (n : Nat), v = .tuple #[w, .int .i64 n, .bool true] ∧ Row (h ++ t) w out.length 1 (out.map str) ∧ Recov s out n ∧ out.length ≤ 4000 := by
  obtain ⟨L, hL⟩ : ∃ L, h.length = L := ⟨_, rfl⟩
  have hLf : (frz h).length = L := by simpa using hL
  refine ACp.walk Tryd.func9 rfl (by decide) (by kernel_rfl) mixed ?_
  simp (maxSteps := 4000000) (disch := (first | omega | (simp only [List.length_append, List.length_cons, List.length_nil, List.length_map, List.length_set]; omega))) only [wk, wb, run_block, run_seq, cnd_dec, cnd_ndec, hset_c0, wBuiltin, wAppend, wCopy, wClear, dsOf, ev, aput, aPick, aExtract, aBuiltin, aZeros, ↓reduceIte, Nat.reduceAdd, Nat.reduceSub, Nat.reduceMul, Nat.reduceEqDiff, reduceCtorEq, Int.reduceGT, Int.reduceLT, Int.reduceLE, Int.reduceGE, Int.reduceEq, Int.reduceToNat, Int.reduceAdd, Int.reduceSub, Int.reduceNeg, Int.reduceMul, Nat.reduceLeDiff, tys, Tryd.f9, hL]
  refine ⟨fun h => by exfalso; omega, fun _ => ?_⟩
  refine RL.wf (α := Nat × List Bs × Value × AHeap) (fun x => s.length - x.1) (fun x => flg 0 63 [(0, str s), (5, x.2.2.1), (6, .int .i64 (x.1 : Int)), (7, .int .i64 (jchk 0 x.2.1 : Nat))]) (fun x => frz h ++ x.2.2.2)
    (fun x => x.1 ≤ s.length ∧ s.take x.1 = jour 0 x.2.1 ∧ (∀ l ∈ x.2.1, nlFree l) ∧ Own (frz h ++ x.2.2.2) L x.2.2.1 x.2.1.length 1 9 (x.2.1.map str) ∧ x.2.1.length ≤ x.1) ?_
    (0, [], .slice (some ⟨L, 0, none⟩) 0 0, [⟨[], 9, true⟩]) ⟨by simp, by simp [jour], by simp, Own.empty _ _ (by omega) (by simp; omega), by simp⟩ _ _ (by simp only [flg_z, flg_n, flg_c, ↓reduceIte, Nat.reduceEqDiff, Nat.reduceAdd]; repeat (first | exact FLe.nil | apply FLe.junk | apply FLe.same)) (HLe.refl _)
  rintro ⟨n, out, v, t⟩ ⟨h1, h2, h3, h4, h5⟩ ih
  simp only at h1 h2 h3 h4 h5 ih
  have hc := jchk_lt (c := 0) (by omega) out
  generalize hck : jchk 0 out = ck at *
  obtain ⟨u, hu⟩ : ∃ u, s.drop n = u := ⟨_, rfl⟩
  have hul : u.length = s.length - n := by rw [← hu]; simp
  refine RL.round ?_
  simp (maxSteps := 4000000) (disch := (first | omega | (simp only [List.length_append, List.length_cons, List.length_nil, List.length_map, List.length_set]; omega))) only [wk, wb, run_block, run_seq, cnd_dec, cnd_ndec, hset_c0, wBuiltin, wAppend, wCopy, wClear, dsOf, ev, aput, aPick, aExtract, aBuiltin, aZeros, ↓reduceIte, Nat.reduceAdd, Nat.reduceSub, Nat.reduceMul, Nat.reduceEqDiff, reduceCtorEq, Int.reduceGT, Int.reduceLT, Int.reduceLE, Int.reduceGE, Int.reduceEq, Int.reduceToNat, Int.reduceAdd, Int.reduceSub, Int.reduceNeg, Int.reduceMul, Nat.reduceLeDiff, tys, hu]
  obtain ⟨v1, t1, hc1, rfl, rfl⟩ := cut_ok (frz h ++ t) u 10 (by omega)
  refine acall.p hc1 ?_
  have fin0 : jstep ck u = none → ∃ t_1, frz h ++ t = frz h ++ t_1 ∧ ∃ (w : Value) (out' : List Bs) (n' : Nat), Value.tuple #[v, .int .i64 n, .bool true] = .tuple #[w, .int .i64 n', .bool true] ∧ Row (h ++ t_1) w out'.length 1 (out'.map str) ∧ Recov s out' n' ∧ out'.length ≤ 4000 := fun hj =>
    ⟨t, rfl, v, out, n, rfl, (h4.unfrz (by omega)).row, ⟨h1, h2, h3, by rw [hck, hu]; exact hj⟩, by omega⟩
  cases hi : idx 10 u with
  | none =>
    rw [cutB_none hi]
    simp (maxSteps := 4000000) (disch := (first | omega | (simp only [List.length_append, List.length_cons, List.length_nil, List.length_map, List.length_set]; omega))) only [wk, wb, run_block, run_seq, cnd_dec, cnd_ndec, hset_c0, wBuiltin, wAppend, wCopy, wClear, dsOf, ev, aput, aPick, aExtract, aBuiltin, aZeros, ↓reduceIte, Nat.reduceAdd, Nat.reduceSub, Nat.reduceMul, Nat.reduceEqDiff, reduceCtorEq, Int.reduceGT, Int.reduceLT, Int.reduceLE, Int.reduceGE, Int.reduceEq, Int.reduceToNat, Int.reduceAdd, Int.reduceSub, Int.reduceNeg, Int.reduceMul, Nat.reduceLeDiff, tys]
    obtain ⟨v2, t2, hc2, rfl, rfl⟩ := cut_ok (frz h ++ t) u 32 (by omega)
    refine acall.p hc2 ?_
    simp (maxSteps := 4000000) (disch := (first | omega | (simp only [List.length_append, List.length_cons, List.length_nil, List.length_map, List.length_set]; omega))) only [wk, wb, run_block, run_seq, cnd_dec, cnd_ndec, hset_c0, wBuiltin, wAppend, wCopy, wClear, dsOf, ev, aput, aPick, aExtract, aBuiltin, aZeros, ↓reduceIte, Nat.reduceAdd, Nat.reduceSub, Nat.reduceMul, Nat.reduceEqDiff, reduceCtorEq, Int.reduceGT, Int.reduceLT, Int.reduceLE, Int.reduceGE, Int.reduceEq, Int.reduceToNat, Int.reduceAdd, Int.reduceSub, Int.reduceNeg, Int.reduceMul, Nat.reduceLeDiff, tys]
    have hl2 : (cutB u 32).2.1.length ≤ u.length := by unfold cutB; split <;> simp
    obtain ⟨v3, t3, hc3, rfl, rfl⟩ := checkOf_ok (frz h ++ t) ck (cutB u 32).2.1 hc (by omega)
    refine acall.p hc3 ?_
    simp (maxSteps := 4000000) (disch := (first | omega | (simp only [List.length_append, List.length_cons, List.length_nil, List.length_map, List.length_set]; omega))) only [wk, wb, run_block, run_seq, cnd_dec, cnd_ndec, hset_c0, wBuiltin, wAppend, wCopy, wClear, dsOf, ev, aput, aPick, aExtract, aBuiltin, aZeros, ↓reduceIte, Nat.reduceAdd, Nat.reduceSub, Nat.reduceMul, Nat.reduceEqDiff, reduceCtorEq, Int.reduceGT, Int.reduceLT, Int.reduceLE, Int.reduceGE, Int.reduceEq, Int.reduceToNat, Int.reduceAdd, Int.reduceSub, Int.reduceNeg, Int.reduceMul, Nat.reduceLeDiff, tys]
    exact fin0 (by simp [jstep, hi])
  | some i =>
    obtain ⟨e1, e2, e3⟩ := idx_some hi
    rw [cutB_some hi]
    simp (maxSteps := 4000000) (disch := (first | omega | (simp only [List.length_append, List.length_cons, List.length_nil, List.length_map, List.length_set]; omega))) only [wk, wb, run_block, run_seq, cnd_dec, cnd_ndec, hset_c0, wBuiltin, wAppend, wCopy, wClear, dsOf, ev, aput, aPick, aExtract, aBuiltin, aZeros, ↓reduceIte, Nat.reduceAdd, Nat.reduceSub, Nat.reduceMul, Nat.reduceEqDiff, reduceCtorEq, Int.reduceGT, Int.reduceLT, Int.reduceLE, Int.reduceGE, Int.reduceEq, Int.reduceToNat, Int.reduceAdd, Int.reduceSub, Int.reduceNeg, Int.reduceMul, Nat.reduceLeDiff, tys]
    obtain ⟨v2, t2, hc2, rfl, rfl⟩ := cut_ok (frz h ++ t) (u.take i) 32 (by simp; omega)
    refine acall.p hc2 ?_
    cases hj : idx 32 (u.take i) with
    | none =>
      rw [cutB_none hj]
      simp (maxSteps := 4000000) (disch := (first | omega | (simp only [List.length_append, List.length_cons, List.length_nil, List.length_map, List.length_set]; omega))) only [wk, wb, run_block, run_seq, cnd_dec, cnd_ndec, hset_c0, wBuiltin, wAppend, wCopy, wClear, dsOf, ev, aput, aPick, aExtract, aBuiltin, aZeros, ↓reduceIte, Nat.reduceAdd, Nat.reduceSub, Nat.reduceMul, Nat.reduceEqDiff, reduceCtorEq, Int.reduceGT, Int.reduceLT, Int.reduceLE, Int.reduceGE, Int.reduceEq, Int.reduceToNat, Int.reduceAdd, Int.reduceSub, Int.reduceNeg, Int.reduceMul, Nat.reduceLeDiff, tys]
      obtain ⟨v3, t3, hc3, rfl, rfl⟩ := checkOf_ok (frz h ++ t) ck [] hc (by simp)
      refine acall.p hc3 ?_
      simp (maxSteps := 4000000) (disch := (first | omega | (simp only [List.length_append, List.length_cons, List.length_nil, List.length_map, List.length_set]; omega))) only [wk, wb, run_block, run_seq, cnd_dec, cnd_ndec, hset_c0, wBuiltin, wAppend, wCopy, wClear, dsOf, ev, aput, aPick, aExtract, aBuiltin, aZeros, ↓reduceIte, Nat.reduceAdd, Nat.reduceSub, Nat.reduceMul, Nat.reduceEqDiff, reduceCtorEq, Int.reduceGT, Int.reduceLT, Int.reduceLE, Int.reduceGE, Int.reduceEq, Int.reduceToNat, Int.reduceAdd, Int.reduceSub, Int.reduceNeg, Int.reduceMul, Nat.reduceLeDiff, tys]
      exact fin0 (by simp [jstep, hi, hj])
    | some j =>
      rw [cutB_some hj]
      simp (maxSteps := 4000000) (disch := (first | omega | (simp only [List.length_append, List.length_cons, List.length_nil, List.length_map, List.length_set]; omega))) only [wk, wb, run_block, run_seq, cnd_dec, cnd_ndec, hset_c0, wBuiltin, wAppend, wCopy, wClear, dsOf, ev, aput, aPick, aExtract, aBuiltin, aZeros, ↓reduceIte, Nat.reduceAdd, Nat.reduceSub, Nat.reduceMul, Nat.reduceEqDiff, reduceCtorEq, Int.reduceGT, Int.reduceLT, Int.reduceLE, Int.reduceGE, Int.reduceEq, Int.reduceToNat, Int.reduceAdd, Int.reduceSub, Int.reduceNeg, Int.reduceMul, Nat.reduceLeDiff, tys]
      obtain ⟨ln, hln⟩ : ∃ ln, (u.take i).drop (j + 1) = ln := ⟨_, rfl⟩
      have hlnl : ln.length ≤ 4000 := by rw [← hln]; simp; omega
      rw [hln]
      obtain ⟨v3, t3, hc3, rfl, rfl⟩ := checkOf_ok (frz h ++ t) ck ln hc (by omega)
      refine acall.p hc3 ?_
      have hc4 := chkOf_lt hc ln
      simp (maxSteps := 4000000) (disch := (first | omega | (simp only [List.length_append, List.length_cons, List.length_nil, List.length_map, List.length_set]; omega))) only [wk, wb, run_block, run_seq, cnd_dec, cnd_ndec, hset_c0, wBuiltin, wAppend, wCopy, wClear, dsOf, ev, aput, aPick, aExtract, aBuiltin, aZeros, ↓reduceIte, Nat.reduceAdd, Nat.reduceSub, Nat.reduceMul, Nat.reduceEqDiff, reduceCtorEq, Int.reduceGT, Int.reduceLT, Int.reduceLE, Int.reduceGE, Int.reduceEq, Int.reduceToNat, Int.reduceAdd, Int.reduceSub, Int.reduceNeg, Int.reduceMul, Nat.reduceLeDiff, tys]
      have hin : inI ((chkOf ck ln : Nat) : Int) := by unfold inI; omega
      obtain ⟨v4, t4, hc5, rfl, rfl⟩ := decimal_ok (frz h ++ t) (chkOf ck ln : Nat) hin
      refine acall.p hc5 ?_
      have hdl := decB_len _ hin
      simp (maxSteps := 4000000) (disch := (first | omega | (simp only [List.length_append, List.length_cons, List.length_nil, List.length_map, List.length_set]; omega))) only [wk, wb, run_block, run_seq, cnd_dec, cnd_ndec, hset_c0, wBuiltin, wAppend, wCopy, wClear, dsOf, ev, aput, aPick, aExtract, aBuiltin, aZeros, ↓reduceIte, Nat.reduceAdd, Nat.reduceSub, Nat.reduceMul, Nat.reduceEqDiff, reduceCtorEq, Int.reduceGT, Int.reduceLT, Int.reduceLE, Int.reduceGE, Int.reduceEq, Int.reduceToNat, Int.reduceAdd, Int.reduceSub, Int.reduceNeg, Int.reduceMul, Nat.reduceLeDiff, tys]
      refine ⟨fun he => ?_, fun he => ?_⟩
      · have hst : jstep ck u = some (ln, i) := by simp [jstep, hi, hj, hln, he]
        obtain ⟨f1, f2, f3, f4⟩ := jstep_some hst
        have hti : (u.take i).length = i := by simp; omega
        obtain ⟨v', t', k1, k2, _⟩ := h4.push1 (P := Tryd.prog) hLf (ty := 24) (zs := [str ln]) se24 ti9 rfl rfl rfl (by simp; rfl) (by simp only; omega) (by omega)
        have hhL : h.length = L := hL
        rw [hL, k1]
        simp (maxSteps := 4000000) (disch := (first | omega | (simp only [List.length_append, List.length_cons, List.length_nil, List.length_map, List.length_set]; omega))) only [wk, wb, run_block, run_seq, cnd_dec, cnd_ndec, hset_c0, wBuiltin, wAppend, wCopy, wClear, dsOf, ev, aput, aPick, aExtract, aBuiltin, aZeros, ↓reduceIte, Nat.reduceAdd, Nat.reduceSub, Nat.reduceMul, Nat.reduceEqDiff, reduceCtorEq, Int.reduceGT, Int.reduceLT, Int.reduceLE, Int.reduceGE, Int.reduceEq, Int.reduceToNat, Int.reduceAdd, Int.reduceSub, Int.reduceNeg, Int.reduceMul, Nat.reduceLeDiff, tys, hti]
        have e4 : jchk 0 (out ++ [ln]) = chkOf ck ln := by rw [jchk_append, hck]; rfl
        rw [show (n : Int) + ((i : Int) + 1) = ((n + (i + 1) : Nat) : Int) by omega]
        have go := ih (n + (i + 1), out ++ [ln], v', t') (by simp only; omega) ⟨by simp only; omega, ?_, ?_, by simpa using k2, by simp; omega⟩
        · simp only [e4] at go
          exact go _ _ (by simp only [flg_z, flg_n, flg_c, ↓reduceIte, Nat.reduceEqDiff, Nat.reduceAdd]; repeat (first | exact FLe.nil | apply FLe.junk | apply FLe.same)) (HLe.refl _)
        · simp only
          rw [List.take_add, h2, hu, jour_append, hck]
          congr 1
          rw [f1, f3, List.take_left]; simp [jour]
        · intro l hl
          rcases List.mem_append.1 hl with hl | hl
          · exact h3 l hl
          · rw [List.mem_singleton] at hl; rw [hl]; exact f2
      · exact fin0 (by simp [jstep, hi, hj, hln, he])
end Go.Proofs.YtmjalehlcbfljaaDoor

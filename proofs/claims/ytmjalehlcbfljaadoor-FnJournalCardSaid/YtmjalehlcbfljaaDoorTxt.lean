/- The texts of the journal's lines: reading bytes, decimals, cutting. -/
import Derived.Test.YtmjalehlcbfljaaDoorDec
set_option linter.unusedSectionVars false
set_option linter.defProp false
set_option linter.unusedVariables false
set_option linter.unusedSimpArgs false
set_option linter.unnecessarySimpa false
namespace Go.Proofs.YtmjalehlcbfljaaDoor
open Go Go.AM
set_option maxRecDepth 8000
def joinB : List UInt8 → List Int → List UInt8
  | l, [] => l
  | l, n :: r => joinB (l ++ 58 :: decB n) r
theorem joinB_append (l : List UInt8) (a b : List Int) : joinB l (a ++ b) = joinB (joinB l a) b := by
  induction a generalizing l with
  | nil => rfl
  | cons n r ih => exact ih _
theorem decB_len (n : Int) (hn : -9223372036854775808 ≤ n ∧ n < 9223372036854775808) : (decB n).length ≤ 20 := by
  have := digR_len 19 n.natAbs (by omega)
  unfold decB
  split
  · simp
  · split <;> simp <;> omega
theorem joinB_len (l : List UInt8) (a : List Int) (ha : ∀ n ∈ a, -9223372036854775808 ≤ n ∧ n < 9223372036854775808) : (joinB l a).length ≤ l.length + 21 * a.length := by
  induction a generalizing l with
  | nil => simp [joinB]
  | cons n r ih =>
    have h1 := ih (l ++ 58 :: decB n) fun x hx => ha x (by simp [hx])
    have h2 := decB_len n (ha n (by simp))
    simp only [joinB, List.length_cons, List.length_append] at h1 ⊢
    omega
abbrev ints (l : List Int) : List Value := l.map (Value.int .i64)
theorem icell (l : List Int) (j : Nat) (hj : j < l.length) : (ints l).getD j undef = .int .i64 (l.getD j 0) := by
  simp [ints, List.getD_eq_getElem?_getD, hj]

theorem join_ok (h : AHeap) (l : List UInt8) (v : Value) (a : List Int) (hr : Row h v a.length 1 (ints a)) (ha : ∀ n ∈ a, -9223372036854775808 ≤ n ∧ n < 9223372036854775808) (hl : l.length ≤ 1000000) (hal : a.length ≤ 1000000) :
    ∃ w t, ACp Tryd.prog 35 [str l, v] h w t ∧ w = str (joinB l a) := by
  obtain ⟨L, hL⟩ : ∃ L, h.length = L := ⟨_, rfl⟩
  have hrf := hr.frz
  refine ACp.walk Tryd.func35 rfl (by decide) (by kernel_rfl) mixed ?_
  simp (maxSteps := 4000000) (disch := (first | omega | (simp only [List.length_append, List.length_cons, List.length_nil, List.length_map, List.length_set]; omega))) only [wk, wb, run_block, run_seq, cnd_dec, cnd_ndec, hset_c0, wBuiltin, wAppend, wCopy, wClear, dsOf, ev, aput, aPick, aExtract, aBuiltin, aZeros, ↓reduceIte, Nat.reduceAdd, Nat.reduceSub, Nat.reduceMul, Nat.reduceEqDiff, reduceCtorEq, Int.reduceGT, Int.reduceLT, Int.reduceLE, Int.reduceGE, Int.reduceEq, Int.reduceToNat, Int.reduceAdd, Int.reduceSub, Int.reduceNeg, Int.reduceMul, Nat.reduceLeDiff, tys, Tryd.f35, hL]
  refine RL.wf (α := Nat × AHeap) (fun x => a.length - x.1) (fun x => flg 0 21 [(0, str (joinB l (a.take x.1))), (1, v), (5, .int .i64 (x.1 : Int))]) (fun x => frz h ++ x.2)
    (fun x => x.1 ≤ a.length) ?_ (0, []) (by simp) _ _ (by simp only [flg_z, flg_n, flg_c, ↓reduceIte, Nat.reduceEqDiff, Nat.reduceAdd]; repeat (first | exact FLe.nil | apply FLe.junk | apply FLe.same)) (HLe.of_eq (by simp))
  rintro ⟨i, t⟩ hi ih
  simp only at hi ih
  refine RL.round ?_
  simp (maxSteps := 4000000) (disch := (first | omega | (simp only [List.length_append, List.length_cons, List.length_nil, List.length_map, List.length_set]; omega))) only [wk, wb, run_block, run_seq, cnd_dec, cnd_ndec, hset_c0, wBuiltin, wAppend, wCopy, wClear, dsOf, ev, aput, aPick, aExtract, aBuiltin, aZeros, ↓reduceIte, Nat.reduceAdd, Nat.reduceSub, Nat.reduceMul, Nat.reduceEqDiff, reduceCtorEq, Int.reduceGT, Int.reduceLT, Int.reduceLE, Int.reduceGE, Int.reduceEq, Int.reduceToNat, Int.reduceAdd, Int.reduceSub, Int.reduceNeg, Int.reduceMul, Nat.reduceLeDiff, tys, hL, hr.alen]
  refine ⟨fun hlt => ?_, fun hlt => ?_⟩
  · have hi' : i < a.length := by omega
    have hrt := hrf.app t
    simp (maxSteps := 4000000) (disch := (first | omega | (simp only [List.length_append, List.length_cons, List.length_nil, List.length_map, List.length_set]; omega))) only [wk, wb, run_block, run_seq, cnd_dec, cnd_ndec, hset_c0, wBuiltin, wAppend, wCopy, wClear, dsOf, ev, aput, aPick, aExtract, aBuiltin, aZeros, ↓reduceIte, Nat.reduceAdd, Nat.reduceSub, Nat.reduceMul, Nat.reduceEqDiff, reduceCtorEq, Int.reduceGT, Int.reduceLT, Int.reduceLE, Int.reduceGE, Int.reduceEq, Int.reduceToNat, Int.reduceAdd, Int.reduceSub, Int.reduceNeg, Int.reduceMul, Nat.reduceLeDiff, tys, hL, hrt.idx, hrt.cell, icell]
    have hb := ha (a.getD i 0) (by rw [List.getD_eq_getElem?_getD, List.getElem?_eq_getElem hi']; exact List.getElem_mem hi')
    obtain ⟨w, t2, hc, rfl⟩ := dec_ok (frz h ++ t) (a.getD i 0) hb
    refine acall.p hc ?_
    have h1 := decB_len _ hb
    have h2 := joinB_len l (a.take i) fun x hx => ha x (List.mem_of_mem_take hx)
    have h3 : (a.take i).length ≤ a.length := by simp; omega
    simp (maxSteps := 4000000) (disch := (first | omega | (simp only [List.length_append, List.length_cons, List.length_nil, List.length_map, List.length_set]; omega))) only [wk, wb, run_block, run_seq, cnd_dec, cnd_ndec, hset_c0, wBuiltin, wAppend, wCopy, wClear, dsOf, ev, aput, aPick, aExtract, aBuiltin, aZeros, ↓reduceIte, Nat.reduceAdd, Nat.reduceSub, Nat.reduceMul, Nat.reduceEqDiff, reduceCtorEq, Int.reduceGT, Int.reduceLT, Int.reduceLE, Int.reduceGE, Int.reduceEq, Int.reduceToNat, Int.reduceAdd, Int.reduceSub, Int.reduceNeg, Int.reduceMul, Nat.reduceLeDiff, tys]
    refine ih (i + 1, t ++ t2) (by simp only; omega) (by simp only; omega) _ _ ?_ (HLe.refl _)
    have e : a.take (i + 1) = a.take i ++ [a.getD i 0] := by
      rw [List.take_add_one, List.getElem?_eq_getElem hi', List.getD_eq_getElem?_getD, List.getElem?_eq_getElem hi']; rfl
    have e2 : joinB l (a.take (i + 1)) = joinB l (a.take i) ++ (58 :: decB (a.getD i 0)) := by rw [e, joinB_append]; rfl
    simp only [e2]
    exact (by simp only [flg_z, flg_n, flg_c, ↓reduceIte, Nat.reduceEqDiff, Nat.reduceAdd]; repeat (first | exact FLe.nil | apply FLe.junk | apply FLe.same))
  · exact ⟨t, rfl, by rw [List.take_of_length_le (by omega)]⟩

/-- The text of a stream. -/
def strB (k w t m f a s : Int) : List UInt8 := if k = 0 then joinB [114] [w, t, s] else joinB [99] [m, f, a, s]
def inI (n : Int) : Prop := -9223372036854775808 ≤ n ∧ n < 9223372036854775808
theorem strText_ok (h : AHeap) (q : Nat) (k w t m f a s : Int) (hq : rd h q = some [.int .i64 k, .int .i64 w, .int .i64 t, .int .i64 m, .int .i64 f, .int .i64 a, .int .i64 s]) (hi : inI w ∧ inI t ∧ inI m ∧ inI f ∧ inI a ∧ inI s) :
    ∃ v u, ACp Tryd.prog 26 [.pointer (some ⟨q, 0, none⟩)] h v u ∧ v = str (strB k w t m f a s) := by
  obtain ⟨L, hL⟩ : ∃ L, h.length = L := ⟨_, rfl⟩
  have hLf : (frz h).length = L := by simpa using hL
  obtain ⟨i1, i2, i3, i4, i5, i6⟩ := hi
  have hqL := rd_lt hq
  refine ACp.walk Tryd.func26 rfl (by decide) (by kernel_rfl) mixed ?_
  simp (maxSteps := 4000000) (disch := (first | omega | (simp only [List.length_append, List.length_cons, List.length_nil, List.length_map, List.length_set]; omega))) only [wk, wb, run_block, run_seq, cnd_dec, cnd_ndec, hset_c0, wBuiltin, wAppend, wCopy, wClear, dsOf, ev, aput, aPick, aExtract, aBuiltin, aZeros, ↓reduceIte, Nat.reduceAdd, Nat.reduceSub, Nat.reduceMul, Nat.reduceEqDiff, reduceCtorEq, Int.reduceGT, Int.reduceLT, Int.reduceLE, Int.reduceGE, Int.reduceEq, Int.reduceToNat, Int.reduceAdd, Int.reduceSub, Int.reduceNeg, Int.reduceMul, Nat.reduceLeDiff, tys, Tryd.f26, hL, hq]
  refine ⟨fun hk => ?_, fun hk => ?_⟩
  · obtain ⟨v, u, hc, rfl⟩ := join_ok (frz h ++ [⟨[.int .i64 w, .int .i64 t, .int .i64 s], 2, true⟩]) [114] (.slice (some ⟨L, 0, none⟩) 3 3) [w, t, s] (Row.new (by simp (maxSteps := 4000000) (disch := (first | omega | (simp only [List.length_append, List.length_cons, List.length_nil, List.length_map, List.length_set]; omega))) only [wk, wb, run_block, run_seq, cnd_dec, cnd_ndec, hset_c0, wBuiltin, wAppend, wCopy, wClear, dsOf, ev, aput, aPick, aExtract, aBuiltin, aZeros, ↓reduceIte, Nat.reduceAdd, Nat.reduceSub, Nat.reduceMul, Nat.reduceEqDiff, reduceCtorEq, Int.reduceGT, Int.reduceLT, Int.reduceLE, Int.reduceGE, Int.reduceEq, Int.reduceToNat, Int.reduceAdd, Int.reduceSub, Int.reduceNeg, Int.reduceMul, Nat.reduceLeDiff, tys, hL]) rfl)
      (by intro n hn; simp at hn; rcases hn with rfl | rfl | rfl <;> assumption) (by simp) (by simp)
    refine acall.dp hc ?_ ?_
    · simp (maxSteps := 4000000) (disch := (first | omega | (simp only [List.length_append, List.length_cons, List.length_nil, List.length_map, List.length_set]; omega))) only [wk, wb, run_block, run_seq, cnd_dec, cnd_ndec, hset_c0, wBuiltin, wAppend, wCopy, wClear, dsOf, ev, aput, aPick, aExtract, aBuiltin, aZeros, ↓reduceIte, Nat.reduceAdd, Nat.reduceSub, Nat.reduceMul, Nat.reduceEqDiff, reduceCtorEq, Int.reduceGT, Int.reduceLT, Int.reduceLE, Int.reduceGE, Int.reduceEq, Int.reduceToNat, Int.reduceAdd, Int.reduceSub, Int.reduceNeg, Int.reduceMul, Nat.reduceLeDiff, tys]
    · simp (maxSteps := 4000000) (disch := (first | omega | (simp only [List.length_append, List.length_cons, List.length_nil, List.length_map, List.length_set]; omega))) only [wk, wb, run_block, run_seq, cnd_dec, cnd_ndec, hset_c0, wBuiltin, wAppend, wCopy, wClear, dsOf, ev, aput, aPick, aExtract, aBuiltin, aZeros, ↓reduceIte, Nat.reduceAdd, Nat.reduceSub, Nat.reduceMul, Nat.reduceEqDiff, reduceCtorEq, Int.reduceGT, Int.reduceLT, Int.reduceLE, Int.reduceGE, Int.reduceEq, Int.reduceToNat, Int.reduceAdd, Int.reduceSub, Int.reduceNeg, Int.reduceMul, Nat.reduceLeDiff, tys, hL, hq]
      exact ⟨_, rfl, by simp [strB, hk]⟩
  · obtain ⟨v, u, hc, rfl⟩ := join_ok (frz h ++ [⟨[.int .i64 m, .int .i64 f, .int .i64 a, .int .i64 s], 2, true⟩]) [99] (.slice (some ⟨L, 0, none⟩) 4 4) [m, f, a, s] (Row.new (by simp (maxSteps := 4000000) (disch := (first | omega | (simp only [List.length_append, List.length_cons, List.length_nil, List.length_map, List.length_set]; omega))) only [wk, wb, run_block, run_seq, cnd_dec, cnd_ndec, hset_c0, wBuiltin, wAppend, wCopy, wClear, dsOf, ev, aput, aPick, aExtract, aBuiltin, aZeros, ↓reduceIte, Nat.reduceAdd, Nat.reduceSub, Nat.reduceMul, Nat.reduceEqDiff, reduceCtorEq, Int.reduceGT, Int.reduceLT, Int.reduceLE, Int.reduceGE, Int.reduceEq, Int.reduceToNat, Int.reduceAdd, Int.reduceSub, Int.reduceNeg, Int.reduceMul, Nat.reduceLeDiff, tys, hL]) rfl)
      (by intro n hn; simp at hn; rcases hn with rfl | rfl | rfl | rfl <;> assumption) (by simp) (by simp)
    refine acall.dp hc ?_ ?_
    · simp (maxSteps := 4000000) (disch := (first | omega | (simp only [List.length_append, List.length_cons, List.length_nil, List.length_map, List.length_set]; omega))) only [wk, wb, run_block, run_seq, cnd_dec, cnd_ndec, hset_c0, wBuiltin, wAppend, wCopy, wClear, dsOf, ev, aput, aPick, aExtract, aBuiltin, aZeros, ↓reduceIte, Nat.reduceAdd, Nat.reduceSub, Nat.reduceMul, Nat.reduceEqDiff, reduceCtorEq, Int.reduceGT, Int.reduceLT, Int.reduceLE, Int.reduceGE, Int.reduceEq, Int.reduceToNat, Int.reduceAdd, Int.reduceSub, Int.reduceNeg, Int.reduceMul, Nat.reduceLeDiff, tys]
    · simp (maxSteps := 4000000) (disch := (first | omega | (simp only [List.length_append, List.length_cons, List.length_nil, List.length_map, List.length_set]; omega))) only [wk, wb, run_block, run_seq, cnd_dec, cnd_ndec, hset_c0, wBuiltin, wAppend, wCopy, wClear, dsOf, ev, aput, aPick, aExtract, aBuiltin, aZeros, ↓reduceIte, Nat.reduceAdd, Nat.reduceSub, Nat.reduceMul, Nat.reduceEqDiff, reduceCtorEq, Int.reduceGT, Int.reduceLT, Int.reduceLE, Int.reduceGE, Int.reduceEq, Int.reduceToNat, Int.reduceAdd, Int.reduceSub, Int.reduceNeg, Int.reduceMul, Nat.reduceLeDiff, tys, hL, hq]
      exact ⟨_, rfl, by simp [strB, hk]⟩
end Go.Proofs.YtmjalehlcbfljaaDoor

/- Drawing names, numbers and texts. -/
import Derived.Test.YtmjalehlcbfljaaDoorSrc
set_option linter.unusedSectionVars false
set_option linter.defProp false
set_option linter.unusedVariables false
set_option linter.unusedSimpArgs false
set_option linter.unnecessarySimpa false
namespace Go.Proofs.YtmjalehlcbfljaaDoor
open Go Go.AM
set_option maxRecDepth 8000

theorem drawReg_ok (h t0 : AHeap) (p n : Nat) (hs : Src h p n) (hn : n < 4611686018427380000) : ∃ v h' t, AC Tryd.prog 33 [ptr p] (h ++ t0) v (h' ++ (t0 ++ t)) ∧ (∃ w t : Nat, v = .agg #[.int .i64 w, .int .i64 t] ∧ w ≤ 16 ∧ t < 2 ^ w) ∧ Src h' p (n + 10) ∧ Only p h h' ∧ h'.length = h.length := by
  suffices hh : ∃ v h'', AC Tryd.prog 33 [ptr p] (h ++ t0) v h'' ∧ (∃ w t : Nat, v = .agg #[.int .i64 w, .int .i64 t] ∧ w ≤ 16 ∧ t < 2 ^ w) ∧ ∃ h' t, h'' = h' ++ (t0 ++ t) ∧ Src h' p (n + 10) ∧ Only p h h' ∧ h'.length = h.length by
    obtain ⟨v, h'', k1, k2, h', t, rfl, k3⟩ := hh
    exact ⟨v, h', t, k1, k2, k3⟩
  obtain ⟨L, hL⟩ : ∃ L, h.length = L := ⟨_, rfl⟩
  have hp := hs.lt
  refine AC.walk Tryd.func33 rfl (by decide) (by kernel_rfl) mixed ?_
  simp (maxSteps := 4000000) (disch := (first | omega | (simp only [List.length_append, List.length_cons, List.length_nil, List.length_map, List.length_set]; omega))) only [wk, wb, run_block, run_seq, cnd_dec, cnd_ndec, hset_c0, wBuiltin, wAppend, wCopy, wClear, dsOf, ev, aput, aPick, aExtract, aBuiltin, aZeros, ↓reduceIte, Nat.reduceAdd, Nat.reduceSub, Nat.reduceMul, Nat.reduceEqDiff, reduceCtorEq, Int.reduceGT, Int.reduceLT, Int.reduceLE, Int.reduceGE, Int.reduceEq, Int.reduceToNat, Int.reduceAdd, Int.reduceSub, Int.reduceNeg, Int.reduceMul, Nat.reduceLeDiff, tys, Tryd.f33, ptr, hL]
  obtain ⟨v, h1, hc, ⟨x, rfl, hx, hx'⟩, hs1, ho1, hl1⟩ := pick_ok h _ p n 9 hs (by omega) (by omega)
  refine acall.ac hc ?_
  have hL1 : h1.length = L := by omega
  simp (maxSteps := 4000000) (disch := (first | omega | (simp only [List.length_append, List.length_cons, List.length_nil, List.length_map, List.length_set]; omega))) only [wk, wb, run_block, run_seq, cnd_dec, cnd_ndec, hset_c0, wBuiltin, wAppend, wCopy, wClear, dsOf, ev, aput, aPick, aExtract, aBuiltin, aZeros, ↓reduceIte, Nat.reduceAdd, Nat.reduceSub, Nat.reduceMul, Nat.reduceEqDiff, reduceCtorEq, Int.reduceGT, Int.reduceLT, Int.reduceLE, Int.reduceGE, Int.reduceEq, Int.reduceToNat, Int.reduceAdd, Int.reduceSub, Int.reduceNeg, Int.reduceMul, Nat.reduceLeDiff, tys, hL1]
  obtain ⟨v, h2, hc, ⟨b, rfl⟩, hs2, ho2, hl2⟩ := one_ok h1 _ p (n + 2) 14 hs1 (by omega) (by omega)
  refine acall.ac hc ?_
  have hL2 : h2.length = L := by omega
  simp (maxSteps := 4000000) (disch := (first | omega | (simp only [List.length_append, List.length_cons, List.length_nil, List.length_map, List.length_set]; omega))) only [wk, wb, run_block, run_seq, cnd_dec, cnd_ndec, hset_c0, wBuiltin, wAppend, wCopy, wClear, dsOf, ev, aput, aPick, aExtract, aBuiltin, aZeros, ↓reduceIte, Nat.reduceAdd, Nat.reduceSub, Nat.reduceMul, Nat.reduceEqDiff, reduceCtorEq, Int.reduceGT, Int.reduceLT, Int.reduceLE, Int.reduceGE, Int.reduceEq, Int.reduceToNat, Int.reduceAdd, Int.reduceSub, Int.reduceNeg, Int.reduceMul, Nat.reduceLeDiff, tys, hL2]
  refine cnd_cut (α := Nat × AHeap × AHeap) 33 (fun _ => [(0, ptr p), (2, .pointer (some ⟨L + t0.length, 0, none⟩)), (3, .pointer (some ⟨L + (t0.length + 1), 0, none⟩))])
    (fun x => x.2.1 ++ (t0 ++ (⟨[.int .i64 0, .int .i64 0], 63, true⟩ :: ⟨[.int .i64 x.1, .int .i64 0], 63, true⟩ :: x.2.2)))
    (fun x => x.1 ≤ 16 ∧ Src x.2.1 p (n + 6) ∧ Only p h x.2.1 ∧ x.2.1.length = L) ?_ ?_
  · cases b with
    | false =>
      simp (maxSteps := 4000000) (disch := (first | omega | (simp only [List.length_append, List.length_cons, List.length_nil, List.length_map, List.length_set]; omega))) only [wk, wb, run_block, run_seq, cnd_dec, cnd_ndec, hset_c0, wBuiltin, wAppend, wCopy, wClear, dsOf, ev, aput, aPick, aExtract, aBuiltin, aZeros, ↓reduceIte, Nat.reduceAdd, Nat.reduceSub, Nat.reduceMul, Nat.reduceEqDiff, reduceCtorEq, Int.reduceGT, Int.reduceLT, Int.reduceLE, Int.reduceGE, Int.reduceEq, Int.reduceToNat, Int.reduceAdd, Int.reduceSub, Int.reduceNeg, Int.reduceMul, Nat.reduceLeDiff, tys, hL2]
      exact ⟨(x, h2, []), ⟨by simp only; omega, hs2.mono (by omega), ho1.trans ho2, hL2⟩, (by repeat (first | exact FrI.nil _ rfl | refine FrI.cons rfl ?_)), rfl⟩
    | true =>
      simp (maxSteps := 4000000) (disch := (first | omega | (simp only [List.length_append, List.length_cons, List.length_nil, List.length_map, List.length_set]; omega))) only [wk, wb, run_block, run_seq, cnd_dec, cnd_ndec, hset_c0, wBuiltin, wAppend, wCopy, wClear, dsOf, ev, aput, aPick, aExtract, aBuiltin, aZeros, ↓reduceIte, Nat.reduceAdd, Nat.reduceSub, Nat.reduceMul, Nat.reduceEqDiff, reduceCtorEq, Int.reduceGT, Int.reduceLT, Int.reduceLE, Int.reduceGE, Int.reduceEq, Int.reduceToNat, Int.reduceAdd, Int.reduceSub, Int.reduceNeg, Int.reduceMul, Nat.reduceLeDiff, tys, hL2]
      obtain ⟨v, h3, hc, ⟨y, hy, rfl⟩, hs3, ho3, hl3⟩ := among_ok h2 (t0 ++ [⟨[.int .i64 0, .int .i64 0], 63, true⟩, ⟨[.int .i64 x, .int .i64 0], 63, true⟩, ⟨[.int .i64 14, .int .i64 15, .int .i64 16], 2, true⟩]) p (n + 4) (.slice (some ⟨L + (t0.length + 2), 0, none⟩) 3 3) [14, 15, 16] (Row.new (by simp (maxSteps := 4000000) (disch := (first | omega | (simp only [List.length_append, List.length_cons, List.length_nil, List.length_map, List.length_set]; omega))) only [wk, wb, run_block, run_seq, cnd_dec, cnd_ndec, hset_c0, wBuiltin, wAppend, wCopy, wClear, dsOf, ev, aput, aPick, aExtract, aBuiltin, aZeros, ↓reduceIte, Nat.reduceAdd, Nat.reduceSub, Nat.reduceMul, Nat.reduceEqDiff, reduceCtorEq, Int.reduceGT, Int.reduceLT, Int.reduceLE, Int.reduceGE, Int.reduceEq, Int.reduceToNat, Int.reduceAdd, Int.reduceSub, Int.reduceNeg, Int.reduceMul, Nat.reduceLeDiff, tys, hL2]) rfl) (by simp only [sid]; omega) (by decide) hs2 (by omega)
      have hy' : y = 14 ∨ y = 15 ∨ y = 16 := by simpa using hy
      obtain ⟨m, rfl⟩ : ∃ m : Nat, y = m := ⟨y.toNat, by omega⟩
      refine acall.ac hc ?_
      have hL3 : h3.length = L := by omega
      simp (maxSteps := 4000000) (disch := (first | omega | (simp only [List.length_append, List.length_cons, List.length_nil, List.length_map, List.length_set]; omega))) only [wk, wb, run_block, run_seq, cnd_dec, cnd_ndec, hset_c0, wBuiltin, wAppend, wCopy, wClear, dsOf, ev, aput, aPick, aExtract, aBuiltin, aZeros, ↓reduceIte, Nat.reduceAdd, Nat.reduceSub, Nat.reduceMul, Nat.reduceEqDiff, reduceCtorEq, Int.reduceGT, Int.reduceLT, Int.reduceLE, Int.reduceGE, Int.reduceEq, Int.reduceToNat, Int.reduceAdd, Int.reduceSub, Int.reduceNeg, Int.reduceMul, Nat.reduceLeDiff, tys, hL3]
      exact ⟨(m, h3, [⟨[.int .i64 14, .int .i64 15, .int .i64 16], 2, true⟩]), ⟨by simp only; omega, hs3.mono (by omega), (ho1.trans ho2).trans ho3, hL3⟩, (by repeat (first | exact FrI.nil _ rfl | refine FrI.cons rfl ?_)), rfl⟩
  · rintro ⟨w, h3, t⟩ fr ⟨h4, h5, h6, h7⟩ hF
    simp only at h4 h5 h6 h7 hF
    rw [hF.lit]; simp only [flx_z, flx_n, flx_c, ↓reduceIte, Nat.reduceEqDiff, Nat.reduceAdd]
    have hw := shl1 w (by omega)
    simp (maxSteps := 4000000) (disch := (first | omega | (simp only [List.length_append, List.length_cons, List.length_nil, List.length_map, List.length_set]; omega))) only [wk, wb, run_block, run_seq, cnd_dec, cnd_ndec, hset_c0, wBuiltin, wAppend, wCopy, wClear, dsOf, ev, aput, aPick, aExtract, aBuiltin, aZeros, ↓reduceIte, Nat.reduceAdd, Nat.reduceSub, Nat.reduceMul, Nat.reduceEqDiff, reduceCtorEq, Int.reduceGT, Int.reduceLT, Int.reduceLE, Int.reduceGE, Int.reduceEq, Int.reduceToNat, Int.reduceAdd, Int.reduceSub, Int.reduceNeg, Int.reduceMul, Nat.reduceLeDiff, tys, h7, hw, emod_u64]
    have hw2 : 2 ^ w ≤ 2 ^ 16 := Nat.pow_le_pow_right (by omega) h4
    have hw3 : 0 < 2 ^ w := Nat.pow_pos (by omega)
    obtain ⟨v, h8, hc, ⟨y, rfl, hy, hy'⟩, hs8, ho8, hl8⟩ := pick_ok h3 _ p (n + 6) (2 ^ w : Nat) h5 (by omega) (by omega)
    refine acall.ac hc ?_
    have hL8 : h8.length = L := by omega
    simp (maxSteps := 4000000) (disch := (first | omega | (simp only [List.length_append, List.length_cons, List.length_nil, List.length_map, List.length_set]; omega))) only [wk, wb, run_block, run_seq, cnd_dec, cnd_ndec, hset_c0, wBuiltin, wAppend, wCopy, wClear, dsOf, ev, aput, aPick, aExtract, aBuiltin, aZeros, ↓reduceIte, Nat.reduceAdd, Nat.reduceSub, Nat.reduceMul, Nat.reduceEqDiff, reduceCtorEq, Int.reduceGT, Int.reduceLT, Int.reduceLE, Int.reduceGE, Int.reduceEq, Int.reduceToNat, Int.reduceAdd, Int.reduceSub, Int.reduceNeg, Int.reduceMul, Nat.reduceLeDiff, tys, hL8]
    obtain ⟨v, h9, hc, ⟨b', rfl⟩, hs9, ho9, hl9⟩ := one_ok h8 _ p (n + 8) 2 hs8 (by omega) (by omega)
    refine acall.ac hc ?_
    have hL9 : h9.length = L := by omega
    have hy2 : y < 2 ^ w := by omega
    cases b' with
    | false =>
      simp (maxSteps := 4000000) (disch := (first | omega | (simp only [List.length_append, List.length_cons, List.length_nil, List.length_map, List.length_set]; omega))) only [wk, wb, run_block, run_seq, cnd_dec, cnd_ndec, hset_c0, wBuiltin, wAppend, wCopy, wClear, dsOf, ev, aput, aPick, aExtract, aBuiltin, aZeros, ↓reduceIte, Nat.reduceAdd, Nat.reduceSub, Nat.reduceMul, Nat.reduceEqDiff, reduceCtorEq, Int.reduceGT, Int.reduceLT, Int.reduceLE, Int.reduceGE, Int.reduceEq, Int.reduceToNat, Int.reduceAdd, Int.reduceSub, Int.reduceNeg, Int.reduceMul, Nat.reduceLeDiff, tys, hL9]
      exact ⟨⟨w, y, rfl, by omega, by omega⟩, _, _, rfl, hs9.mono (by omega), (h6.trans ho8).trans ho9, hL9⟩
    | true =>
      simp (maxSteps := 4000000) (disch := (first | omega | (simp only [List.length_append, List.length_cons, List.length_nil, List.length_map, List.length_set]; omega))) only [wk, wb, run_block, run_seq, cnd_dec, cnd_ndec, hset_c0, wBuiltin, wAppend, wCopy, wClear, dsOf, ev, aput, aPick, aExtract, aBuiltin, aZeros, ↓reduceIte, Nat.reduceAdd, Nat.reduceSub, Nat.reduceMul, Nat.reduceEqDiff, reduceCtorEq, Int.reduceGT, Int.reduceLT, Int.reduceLE, Int.reduceGE, Int.reduceEq, Int.reduceToNat, Int.reduceAdd, Int.reduceSub, Int.reduceNeg, Int.reduceMul, Nat.reduceLeDiff, tys, hL9, hw, emod_u64]
      have e1 : IntKind.i64.wrap ((BitVec.ofInt IntKind.i64.bits 1 &&& BitVec.ofInt IntKind.i64.bits (((2 ^ w : Nat) : Int) - 1)).toNat : Nat) = ((1 &&& (2 ^ w - 1) : Nat) : Int) := by
        rw [show ((2 ^ w : Nat) : Int) - 1 = ((2 ^ w - 1 : Nat) : Int) by omega]
        exact w_andN 1 (2 ^ w - 1) (by omega) (by omega)
      have e2 : (1 &&& (2 ^ w - 1)) < 2 ^ w := by have := Nat.and_le_right (n := 1) (m := 2 ^ w - 1); omega
      rw [e1, w_orN _ _ (by omega) (by omega)]
      exact ⟨⟨w, y ||| (1 &&& (2 ^ w - 1)), rfl, by omega, Nat.or_lt_two_pow hy2 e2⟩, _, _, rfl, hs9.mono (by omega), (h6.trans ho8).trans ho9, hL9⟩

theorem drawCon_ok (h t0 : AHeap) (p n : Nat) (hs : Src h p n) (hn : n < 4611686018427380000) : ∃ v h' t, AC Tryd.prog 34 [ptr p] (h ++ t0) v (h' ++ (t0 ++ t)) ∧ (∃ m f a : Nat, v = .agg #[.int .i64 m, .int .i64 f, .int .i64 a] ∧ 2 ≤ m ∧ m ≤ 4001 ∧ f < m ∧ a < m) ∧ Src h' p (n + 12) ∧ Only p h h' ∧ h'.length = h.length := by
  suffices hh : ∃ v h'', AC Tryd.prog 34 [ptr p] (h ++ t0) v h'' ∧ (∃ m f a : Nat, v = .agg #[.int .i64 m, .int .i64 f, .int .i64 a] ∧ 2 ≤ m ∧ m ≤ 4001 ∧ f < m ∧ a < m) ∧ ∃ h' t, h'' = h' ++ (t0 ++ t) ∧ Src h' p (n + 12) ∧ Only p h h' ∧ h'.length = h.length by
    obtain ⟨v, h'', k1, k2, h', t, rfl, k3⟩ := hh
    exact ⟨v, h', t, k1, k2, k3⟩
  obtain ⟨L, hL⟩ : ∃ L, h.length = L := ⟨_, rfl⟩
  have hp := hs.lt
  refine AC.walk Tryd.func34 rfl (by decide) (by kernel_rfl) mixed ?_
  simp (maxSteps := 4000000) (disch := (first | omega | (simp only [List.length_append, List.length_cons, List.length_nil, List.length_map, List.length_set]; omega))) only [wk, wb, run_block, run_seq, cnd_dec, cnd_ndec, hset_c0, wBuiltin, wAppend, wCopy, wClear, dsOf, ev, aput, aPick, aExtract, aBuiltin, aZeros, ↓reduceIte, Nat.reduceAdd, Nat.reduceSub, Nat.reduceMul, Nat.reduceEqDiff, reduceCtorEq, Int.reduceGT, Int.reduceLT, Int.reduceLE, Int.reduceGE, Int.reduceEq, Int.reduceToNat, Int.reduceAdd, Int.reduceSub, Int.reduceNeg, Int.reduceMul, Nat.reduceLeDiff, tys, Tryd.f34, ptr, hL]
  obtain ⟨v, h1, hc, ⟨x, rfl, hx, hx'⟩, hs1, ho1, hl1⟩ := pick_ok h _ p n 60 hs (by omega) (by omega)
  refine acall.ac hc ?_
  have hL1 : h1.length = L := by omega
  simp (maxSteps := 4000000) (disch := (first | omega | (simp only [List.length_append, List.length_cons, List.length_nil, List.length_map, List.length_set]; omega))) only [wk, wb, run_block, run_seq, cnd_dec, cnd_ndec, hset_c0, wBuiltin, wAppend, wCopy, wClear, dsOf, ev, aput, aPick, aExtract, aBuiltin, aZeros, ↓reduceIte, Nat.reduceAdd, Nat.reduceSub, Nat.reduceMul, Nat.reduceEqDiff, reduceCtorEq, Int.reduceGT, Int.reduceLT, Int.reduceLE, Int.reduceGE, Int.reduceEq, Int.reduceToNat, Int.reduceAdd, Int.reduceSub, Int.reduceNeg, Int.reduceMul, Nat.reduceLeDiff, tys, hL1]
  obtain ⟨v, h2, hc, ⟨y, rfl, hy, hy'⟩, hs2, ho2, hl2⟩ := pick_ok h1 _ p (n + 2) 8 hs1 (by omega) (by omega)
  refine acall.ac hc ?_
  have hL2 : h2.length = L := by omega
  rw [run_ops_nil]
  refine run_cut (α := Nat × AHeap × AHeap) 40 (fun x => [(0, ptr p), (2, .pointer (some ⟨L + t0.length, 0, none⟩)), (3, .int .i64 x.1)])
    (fun x => x.2.1 ++ (t0 ++ (⟨[.int .i64 0, .int .i64 0, .int .i64 0], 65, true⟩ :: x.2.2)))
    (fun x => 2 ≤ x.1 ∧ x.1 ≤ 4001 ∧ Src x.2.1 p (n + 6) ∧ Only p h x.2.1 ∧ x.2.1.length = L) ?_ ?_
  · have hmk : ∀ (m : Nat) (g t : AHeap) (fr : List Value), 2 ≤ m → m ≤ 4001 → Src g p (n + 6) → Only p h g → g.length = L → FrI 40 [(0, ptr p), (2, .pointer (some ⟨L + t0.length, 0, none⟩)), (3, .int .i64 m)] fr →
        ∃ x : Nat × AHeap × AHeap, (2 ≤ x.1 ∧ x.1 ≤ 4001 ∧ Src x.2.1 p (n + 6) ∧ Only p h x.2.1 ∧ x.2.1.length = L) ∧ FrI 40 [(0, ptr p), (2, .pointer (some ⟨L + t0.length, 0, none⟩)), (3, .int .i64 x.1)] fr ∧
        g ++ (t0 ++ (⟨[.int .i64 0, .int .i64 0, .int .i64 0], 65, true⟩ :: t)) = x.2.1 ++ (t0 ++ (⟨[.int .i64 0, .int .i64 0, .int .i64 0], 65, true⟩ :: x.2.2)) :=
      fun m g t fr k1 k2 k3 k4 k5 k6 => ⟨(m, g, t), ⟨k1, k2, k3, k4, k5⟩, k6, rfl⟩
    simp (maxSteps := 4000000) (disch := (first | omega | (simp only [List.length_append, List.length_cons, List.length_nil, List.length_map, List.length_set]; omega))) only [wk, wb, run_block, run_seq, cnd_dec, cnd_ndec, hset_c0, wBuiltin, wAppend, wCopy, wClear, dsOf, ev, aput, aPick, aExtract, aBuiltin, aZeros, ↓reduceIte, Nat.reduceAdd, Nat.reduceSub, Nat.reduceMul, Nat.reduceEqDiff, reduceCtorEq, Int.reduceGT, Int.reduceLT, Int.reduceLE, Int.reduceGE, Int.reduceEq, Int.reduceToNat, Int.reduceAdd, Int.reduceSub, Int.reduceNeg, Int.reduceMul, Nat.reduceLeDiff, tys, hL2]
    refine ⟨fun hy0 => ?_, fun hy0 => ⟨fun hy1 => ?_, fun hy1 => ?_⟩⟩
    · obtain ⟨v, h3, hc, ⟨z, rfl, hz, hz'⟩, hs3, ho3, hl3⟩ := pick_ok h2 (t0 ++ [⟨[.int .i64 0, .int .i64 0, .int .i64 0], 65, true⟩]) p (n + 4) 4000 hs2 (by omega) (by omega)
      refine acall.ac hc ?_
      have hL3 : h3.length = L := by omega
      simp (maxSteps := 4000000) (disch := (first | omega | (simp only [List.length_append, List.length_cons, List.length_nil, List.length_map, List.length_set]; omega))) only [wk, wb, run_block, run_seq, cnd_dec, cnd_ndec, hset_c0, wBuiltin, wAppend, wCopy, wClear, dsOf, ev, aput, aPick, aExtract, aBuiltin, aZeros, ↓reduceIte, Nat.reduceAdd, Nat.reduceSub, Nat.reduceMul, Nat.reduceEqDiff, reduceCtorEq, Int.reduceGT, Int.reduceLT, Int.reduceLE, Int.reduceGE, Int.reduceEq, Int.reduceToNat, Int.reduceAdd, Int.reduceSub, Int.reduceNeg, Int.reduceMul, Nat.reduceLeDiff, tys, hL3]
      rw [show (2 : Int) + (z : Int) = ((2 + z : Nat) : Int) by omega]
      exact hmk (2 + z) h3 _ _ (by omega) (by omega) (hs3.mono (by omega)) ((ho1.trans ho2).trans ho3) hL3 (by repeat (first | exact FrI.nil _ rfl | refine FrI.cons rfl ?_))
    · obtain ⟨v, h3, hc, ⟨z, hz, rfl⟩, hs3, ho3, hl3⟩ := among_ok h2 (t0 ++ [⟨[.int .i64 0, .int .i64 0, .int .i64 0], 65, true⟩, ⟨[.int .i64 16, .int .i64 64, .int .i64 256, .int .i64 100, .int .i64 81, .int .i64 31, .int .i64 127], 2, true⟩]) p (n + 4) (.slice (some ⟨L + (t0.length + 1), 0, none⟩) 7 7) [16, 64, 256, 100, 81, 31, 127] (Row.new (by simp (maxSteps := 4000000) (disch := (first | omega | (simp only [List.length_append, List.length_cons, List.length_nil, List.length_map, List.length_set]; omega))) only [wk, wb, run_block, run_seq, cnd_dec, cnd_ndec, hset_c0, wBuiltin, wAppend, wCopy, wClear, dsOf, ev, aput, aPick, aExtract, aBuiltin, aZeros, ↓reduceIte, Nat.reduceAdd, Nat.reduceSub, Nat.reduceMul, Nat.reduceEqDiff, reduceCtorEq, Int.reduceGT, Int.reduceLT, Int.reduceLE, Int.reduceGE, Int.reduceEq, Int.reduceToNat, Int.reduceAdd, Int.reduceSub, Int.reduceNeg, Int.reduceMul, Nat.reduceLeDiff, tys, hL2]) rfl) (by simp only [sid]; omega) (by decide) hs2 (by omega)
      have hz' : 2 ≤ z ∧ z ≤ 4001 := by simp at hz; omega
      obtain ⟨m, rfl⟩ : ∃ m : Nat, z = m := ⟨z.toNat, by omega⟩
      refine acall.ac hc ?_
      have hL3 : h3.length = L := by omega
      simp (maxSteps := 4000000) (disch := (first | omega | (simp only [List.length_append, List.length_cons, List.length_nil, List.length_map, List.length_set]; omega))) only [wk, wb, run_block, run_seq, cnd_dec, cnd_ndec, hset_c0, wBuiltin, wAppend, wCopy, wClear, dsOf, ev, aput, aPick, aExtract, aBuiltin, aZeros, ↓reduceIte, Nat.reduceAdd, Nat.reduceSub, Nat.reduceMul, Nat.reduceEqDiff, reduceCtorEq, Int.reduceGT, Int.reduceLT, Int.reduceLE, Int.reduceGE, Int.reduceEq, Int.reduceToNat, Int.reduceAdd, Int.reduceSub, Int.reduceNeg, Int.reduceMul, Nat.reduceLeDiff, tys, hL3]
      exact hmk m h3 _ _ (by omega) (by omega) (hs3.mono (by omega)) ((ho1.trans ho2).trans ho3) hL3 (by repeat (first | exact FrI.nil _ rfl | refine FrI.cons rfl ?_))
    · rw [show (2 : Int) + (x : Int) = ((2 + x : Nat) : Int) by omega]
      exact hmk (2 + x) h2 _ _ (by omega) (by omega) (hs2.mono (by omega)) (ho1.trans ho2) hL2 (by repeat (first | exact FrI.nil _ rfl | refine FrI.cons rfl ?_))
  · rintro ⟨w, h3, t⟩ fr ⟨h4, h5, h6, h7, h8⟩ hF
    simp only at h4 h5 h6 h7 h8 hF
    rw [hF.lit]; simp only [flx_z, flx_n, flx_c, ↓reduceIte, Nat.reduceEqDiff, Nat.reduceAdd]
    simp (maxSteps := 4000000) (disch := (first | omega | (simp only [List.length_append, List.length_cons, List.length_nil, List.length_map, List.length_set]; omega))) only [wk, wb, run_block, run_seq, cnd_dec, cnd_ndec, hset_c0, wBuiltin, wAppend, wCopy, wClear, dsOf, ev, aput, aPick, aExtract, aBuiltin, aZeros, ↓reduceIte, Nat.reduceAdd, Nat.reduceSub, Nat.reduceMul, Nat.reduceEqDiff, reduceCtorEq, Int.reduceGT, Int.reduceLT, Int.reduceLE, Int.reduceGE, Int.reduceEq, Int.reduceToNat, Int.reduceAdd, Int.reduceSub, Int.reduceNeg, Int.reduceMul, Nat.reduceLeDiff, tys, h8]
    obtain ⟨v, h9, hc, ⟨y1, rfl, hy1, hy1'⟩, hs9, ho9, hl9⟩ := pick_ok h3 _ p (n + 6) w h6 (by omega) (by omega)
    refine acall.ac hc ?_
    have hL9 : h9.length = L := by omega
    simp (maxSteps := 4000000) (disch := (first | omega | (simp only [List.length_append, List.length_cons, List.length_nil, List.length_map, List.length_set]; omega))) only [wk, wb, run_block, run_seq, cnd_dec, cnd_ndec, hset_c0, wBuiltin, wAppend, wCopy, wClear, dsOf, ev, aput, aPick, aExtract, aBuiltin, aZeros, ↓reduceIte, Nat.reduceAdd, Nat.reduceSub, Nat.reduceMul, Nat.reduceEqDiff, reduceCtorEq, Int.reduceGT, Int.reduceLT, Int.reduceLE, Int.reduceGE, Int.reduceEq, Int.reduceToNat, Int.reduceAdd, Int.reduceSub, Int.reduceNeg, Int.reduceMul, Nat.reduceLeDiff, tys, hL9]
    obtain ⟨v, g1, hc, ⟨y2, rfl, hy2, hy2'⟩, hsg1, hog1, hlg1⟩ := pick_ok h9 _ p (n + 8) w hs9 (by omega) (by omega)
    refine acall.ac hc ?_
    have hLg1 : g1.length = L := by omega
    simp (maxSteps := 4000000) (disch := (first | omega | (simp only [List.length_append, List.length_cons, List.length_nil, List.length_map, List.length_set]; omega))) only [wk, wb, run_block, run_seq, cnd_dec, cnd_ndec, hset_c0, wBuiltin, wAppend, wCopy, wClear, dsOf, ev, aput, aPick, aExtract, aBuiltin, aZeros, ↓reduceIte, Nat.reduceAdd, Nat.reduceSub, Nat.reduceMul, Nat.reduceEqDiff, reduceCtorEq, Int.reduceGT, Int.reduceLT, Int.reduceLE, Int.reduceGE, Int.reduceEq, Int.reduceToNat, Int.reduceAdd, Int.reduceSub, Int.reduceNeg, Int.reduceMul, Nat.reduceLeDiff, tys, hLg1]
    obtain ⟨v, g2, hc, ⟨b', rfl⟩, hsg2, hog2, hlg2⟩ := one_ok g1 _ p (n + 10) 4 hsg1 (by omega) (by omega)
    refine acall.ac hc ?_
    have hLg2 : g2.length = L := by omega
    have hO := ((h7.trans ho9).trans hog1).trans hog2
    cases b' with
    | false =>
      simp (maxSteps := 4000000) (disch := (first | omega | (simp only [List.length_append, List.length_cons, List.length_nil, List.length_map, List.length_set]; omega))) only [wk, wb, run_block, run_seq, cnd_dec, cnd_ndec, hset_c0, wBuiltin, wAppend, wCopy, wClear, dsOf, ev, aput, aPick, aExtract, aBuiltin, aZeros, ↓reduceIte, Nat.reduceAdd, Nat.reduceSub, Nat.reduceMul, Nat.reduceEqDiff, reduceCtorEq, Int.reduceGT, Int.reduceLT, Int.reduceLE, Int.reduceGE, Int.reduceEq, Int.reduceToNat, Int.reduceAdd, Int.reduceSub, Int.reduceNeg, Int.reduceMul, Nat.reduceLeDiff, tys, hLg2]
      exact ⟨⟨w, y1, y2, rfl, by omega, by omega, by omega, by omega⟩, _, _, rfl, hsg2, hO, hLg2⟩
    | true =>
      simp (maxSteps := 4000000) (disch := (first | omega | (simp only [List.length_append, List.length_cons, List.length_nil, List.length_map, List.length_set]; omega))) only [wk, wb, run_block, run_seq, cnd_dec, cnd_ndec, hset_c0, wBuiltin, wAppend, wCopy, wClear, dsOf, ev, aput, aPick, aExtract, aBuiltin, aZeros, ↓reduceIte, Nat.reduceAdd, Nat.reduceSub, Nat.reduceMul, Nat.reduceEqDiff, reduceCtorEq, Int.reduceGT, Int.reduceLT, Int.reduceLE, Int.reduceGE, Int.reduceEq, Int.reduceToNat, Int.reduceAdd, Int.reduceSub, Int.reduceNeg, Int.reduceMul, Nat.reduceLeDiff, tys, hLg2]
      refine ⟨fun hw => ?_, fun hw => ?_⟩
      · rw [show (1 : Int) + (w : Int) / 2 = ((1 + w / 2 : Nat) : Int) by omega]
        exact ⟨⟨w, 1 + w / 2, y2, rfl, by omega, by omega, by omega, by omega⟩, _, _, rfl, hsg2, hO, hLg2⟩
      · exact ⟨⟨w, y1, y2, rfl, by omega, by omega, by omega, by omega⟩, _, _, rfl, hsg2, hO, hLg2⟩

/-- A valid stream, as cells. -/
def StrOK (v : Value) : Prop := (∃ w t s : Nat, v = .agg #[.int .i64 0, .int .i64 w, .int .i64 t, .int .i64 0, .int .i64 0, .int .i64 0, .int .i64 s] ∧ w ≤ 16 ∧ t < 2 ^ w ∧ s < 2 ^ w) ∨
  (∃ m f a s : Nat, v = .agg #[.int .i64 1, .int .i64 0, .int .i64 0, .int .i64 m, .int .i64 f, .int .i64 a, .int .i64 s] ∧ 2 ≤ m ∧ m ≤ 4001 ∧ f < m ∧ a < m ∧ s < m)
theorem drawStr_ok (h t0 : AHeap) (p n : Nat) (hs : Src h p n) (hn : n < 4611686018427370000) : ∃ v h' t, AC Tryd.prog 25 [ptr p] (h ++ t0) v (h' ++ (t0 ++ t)) ∧ StrOK v ∧ Src h' p (n + 16) ∧ Only p h h' ∧ h'.length = h.length := by
  suffices hh : ∃ v h'', AC Tryd.prog 25 [ptr p] (h ++ t0) v h'' ∧ StrOK v ∧ ∃ h' t, h'' = h' ++ (t0 ++ t) ∧ Src h' p (n + 16) ∧ Only p h h' ∧ h'.length = h.length by
    obtain ⟨v, h'', k1, k2, h', t, rfl, k3⟩ := hh
    exact ⟨v, h', t, k1, k2, k3⟩
  obtain ⟨L, hL⟩ : ∃ L, h.length = L := ⟨_, rfl⟩
  have hp := hs.lt
  refine AC.walk Tryd.func25 rfl (by decide) (by kernel_rfl) mixed ?_
  simp (maxSteps := 4000000) (disch := (first | omega | (simp only [List.length_append, List.length_cons, List.length_nil, List.length_map, List.length_set]; omega))) only [wk, wb, run_block, run_seq, cnd_dec, cnd_ndec, hset_c0, wBuiltin, wAppend, wCopy, wClear, dsOf, ev, aput, aPick, aExtract, aBuiltin, aZeros, ↓reduceIte, Nat.reduceAdd, Nat.reduceSub, Nat.reduceMul, Nat.reduceEqDiff, reduceCtorEq, Int.reduceGT, Int.reduceLT, Int.reduceLE, Int.reduceGE, Int.reduceEq, Int.reduceToNat, Int.reduceAdd, Int.reduceSub, Int.reduceNeg, Int.reduceMul, Nat.reduceLeDiff, tys, Tryd.f25, ptr, hL]
  obtain ⟨v, h1, hc, ⟨b, rfl⟩, hs1, ho1, hl1⟩ := one_ok h _ p n 2 hs (by omega) (by omega)
  refine acall.ac hc ?_
  have hL1 : h1.length = L := by omega
  cases b with
  | true =>
    simp (maxSteps := 4000000) (disch := (first | omega | (simp only [List.length_append, List.length_cons, List.length_nil, List.length_map, List.length_set]; omega))) only [wk, wb, run_block, run_seq, cnd_dec, cnd_ndec, hset_c0, wBuiltin, wAppend, wCopy, wClear, dsOf, ev, aput, aPick, aExtract, aBuiltin, aZeros, ↓reduceIte, Nat.reduceAdd, Nat.reduceSub, Nat.reduceMul, Nat.reduceEqDiff, reduceCtorEq, Int.reduceGT, Int.reduceLT, Int.reduceLE, Int.reduceGE, Int.reduceEq, Int.reduceToNat, Int.reduceAdd, Int.reduceSub, Int.reduceNeg, Int.reduceMul, Nat.reduceLeDiff, tys, hL1]
    obtain ⟨v, h2, t2, hc, ⟨w, t, rfl, hw, ht⟩, hs2, ho2, hl2⟩ := drawReg_ok h1 (t0 ++ [⟨[.int .i64 0, .int .i64 0, .int .i64 0, .int .i64 0, .int .i64 0, .int .i64 0, .int .i64 0], 67, true⟩]) p (n + 2) hs1 (by omega)
    refine acall.ac hc ?_
    have hL2 : h2.length = L := by omega
    have hw2 := shl1 w (by omega)
    have hw3 : 0 < 2 ^ w := Nat.pow_pos (by omega)
    have hw4 : 2 ^ w ≤ 2 ^ 16 := Nat.pow_le_pow_right (by omega) hw
    simp (maxSteps := 4000000) (disch := (first | omega | (simp only [List.length_append, List.length_cons, List.length_nil, List.length_map, List.length_set]; omega))) only [wk, wb, run_block, run_seq, cnd_dec, cnd_ndec, hset_c0, wBuiltin, wAppend, wCopy, wClear, dsOf, ev, aput, aPick, aExtract, aBuiltin, aZeros, ↓reduceIte, Nat.reduceAdd, Nat.reduceSub, Nat.reduceMul, Nat.reduceEqDiff, reduceCtorEq, Int.reduceGT, Int.reduceLT, Int.reduceLE, Int.reduceGE, Int.reduceEq, Int.reduceToNat, Int.reduceAdd, Int.reduceSub, Int.reduceNeg, Int.reduceMul, Nat.reduceLeDiff, tys, hL2, emod_u64, hw2]
    obtain ⟨o, hob, hwb⟩ := hs2.at
    obtain ⟨v, g1, hc, ⟨y, rfl, hy, hy'⟩, hsg, hog, hlg⟩ := pick_ok (fz p h2) (frz (t0 ++ ⟨[.int .i64 0, .int .i64 0, .int .i64 0, .int .i64 0, .int .i64 0, .int .i64 0, .int .i64 0], 67, true⟩ :: (t2 ++ [⟨[.int .i64 w, .int .i64 t], 63, true⟩]))) p (n + 12) (2 ^ w : Nat) hs2.fz (by omega) (by omega)
    rw [fz_length] at hlg
    obtain ⟨o', hob', hwb'⟩ := hsg.at
    obtain ⟨hs3, ho3, hl3⟩ := hsg.thaw hog hlg
    refine acall.d0 hob hwb hob' hwb' hlg (by omega) hc ?_ ?_
    · simp (maxSteps := 4000000) (disch := (first | omega | (simp only [List.length_append, List.length_cons, List.length_nil, List.length_map, List.length_set]; omega))) only [wk, wb, run_block, run_seq, cnd_dec, cnd_ndec, hset_c0, wBuiltin, wAppend, wCopy, wClear, dsOf, ev, aput, aPick, aExtract, aBuiltin, aZeros, ↓reduceIte, Nat.reduceAdd, Nat.reduceSub, Nat.reduceMul, Nat.reduceEqDiff, reduceCtorEq, Int.reduceGT, Int.reduceLT, Int.reduceLE, Int.reduceGE, Int.reduceEq, Int.reduceToNat, Int.reduceAdd, Int.reduceSub, Int.reduceNeg, Int.reduceMul, Nat.reduceLeDiff, tys]
      exact (by (repeat' apply And.intro) <;> first | exact Or.inl (by decide +kernel) | exact Or.inr ⟨by simp, by simp; omega⟩ | exact Or.inr ⟨by simp; omega, by simp; omega⟩ | exact Or.inr ⟨by simp; omega, by simp⟩ | exact Or.inr ⟨by simp, by simp⟩)
    · have hL3 : (thaw p h2 g1).length = L := by omega
      simp (maxSteps := 4000000) (disch := (first | omega | (simp only [List.length_append, List.length_cons, List.length_nil, List.length_map, List.length_set]; omega))) only [wk, wb, run_block, run_seq, cnd_dec, cnd_ndec, hset_c0, wBuiltin, wAppend, wCopy, wClear, dsOf, ev, aput, aPick, aExtract, aBuiltin, aZeros, ↓reduceIte, Nat.reduceAdd, Nat.reduceSub, Nat.reduceMul, Nat.reduceEqDiff, reduceCtorEq, Int.reduceGT, Int.reduceLT, Int.reduceLE, Int.reduceGE, Int.reduceEq, Int.reduceToNat, Int.reduceAdd, Int.reduceSub, Int.reduceNeg, Int.reduceMul, Nat.reduceLeDiff, tys, hL3]
      refine ⟨(by (repeat' apply And.intro) <;> first | exact Or.inl (by decide +kernel) | exact Or.inr ⟨by simp, by simp; omega⟩ | exact Or.inr ⟨by simp; omega, by simp; omega⟩ | exact Or.inr ⟨by simp; omega, by simp⟩ | exact Or.inr ⟨by simp, by simp⟩), .inl ⟨w, t, y, rfl, hw, ht, by omega⟩, _, _, rfl, hs3.mono (by omega), (ho1.trans ho2).trans ho3, by omega⟩
  | false =>
    simp (maxSteps := 4000000) (disch := (first | omega | (simp only [List.length_append, List.length_cons, List.length_nil, List.length_map, List.length_set]; omega))) only [wk, wb, run_block, run_seq, cnd_dec, cnd_ndec, hset_c0, wBuiltin, wAppend, wCopy, wClear, dsOf, ev, aput, aPick, aExtract, aBuiltin, aZeros, ↓reduceIte, Nat.reduceAdd, Nat.reduceSub, Nat.reduceMul, Nat.reduceEqDiff, reduceCtorEq, Int.reduceGT, Int.reduceLT, Int.reduceLE, Int.reduceGE, Int.reduceEq, Int.reduceToNat, Int.reduceAdd, Int.reduceSub, Int.reduceNeg, Int.reduceMul, Nat.reduceLeDiff, tys, hL1]
    obtain ⟨v, h2, t2, hc, ⟨m, f, a, rfl, hm, hm', hf, ha⟩, hs2, ho2, hl2⟩ := drawCon_ok h1 (t0 ++ [⟨[.int .i64 0, .int .i64 0, .int .i64 0, .int .i64 0, .int .i64 0, .int .i64 0, .int .i64 0], 67, true⟩]) p (n + 2) hs1 (by omega)
    refine acall.ac hc ?_
    have hL2 : h2.length = L := by omega
    simp (maxSteps := 4000000) (disch := (first | omega | (simp only [List.length_append, List.length_cons, List.length_nil, List.length_map, List.length_set]; omega))) only [wk, wb, run_block, run_seq, cnd_dec, cnd_ndec, hset_c0, wBuiltin, wAppend, wCopy, wClear, dsOf, ev, aput, aPick, aExtract, aBuiltin, aZeros, ↓reduceIte, Nat.reduceAdd, Nat.reduceSub, Nat.reduceMul, Nat.reduceEqDiff, reduceCtorEq, Int.reduceGT, Int.reduceLT, Int.reduceLE, Int.reduceGE, Int.reduceEq, Int.reduceToNat, Int.reduceAdd, Int.reduceSub, Int.reduceNeg, Int.reduceMul, Nat.reduceLeDiff, tys, hL2]
    obtain ⟨o, hob, hwb⟩ := hs2.at
    obtain ⟨v, g1, hc, ⟨y, rfl, hy, hy'⟩, hsg, hog, hlg⟩ := pick_ok (fz p h2) (frz (t0 ++ ⟨[.int .i64 0, .int .i64 0, .int .i64 0, .int .i64 0, .int .i64 0, .int .i64 0, .int .i64 0], 67, true⟩ :: (t2 ++ [⟨[.int .i64 m, .int .i64 f, .int .i64 a], 65, true⟩]))) p (n + 14) m hs2.fz (by omega) (by omega)
    rw [fz_length] at hlg
    obtain ⟨o', hob', hwb'⟩ := hsg.at
    obtain ⟨hs3, ho3, hl3⟩ := hsg.thaw hog hlg
    refine acall.d0 hob hwb hob' hwb' hlg (by omega) hc ?_ ?_
    · simp (maxSteps := 4000000) (disch := (first | omega | (simp only [List.length_append, List.length_cons, List.length_nil, List.length_map, List.length_set]; omega))) only [wk, wb, run_block, run_seq, cnd_dec, cnd_ndec, hset_c0, wBuiltin, wAppend, wCopy, wClear, dsOf, ev, aput, aPick, aExtract, aBuiltin, aZeros, ↓reduceIte, Nat.reduceAdd, Nat.reduceSub, Nat.reduceMul, Nat.reduceEqDiff, reduceCtorEq, Int.reduceGT, Int.reduceLT, Int.reduceLE, Int.reduceGE, Int.reduceEq, Int.reduceToNat, Int.reduceAdd, Int.reduceSub, Int.reduceNeg, Int.reduceMul, Nat.reduceLeDiff, tys]
      exact (by (repeat' apply And.intro) <;> first | exact Or.inl (by decide +kernel) | exact Or.inr ⟨by simp, by simp; omega⟩ | exact Or.inr ⟨by simp; omega, by simp; omega⟩ | exact Or.inr ⟨by simp; omega, by simp⟩ | exact Or.inr ⟨by simp, by simp⟩)
    · have hL3 : (thaw p h2 g1).length = L := by omega
      simp (maxSteps := 4000000) (disch := (first | omega | (simp only [List.length_append, List.length_cons, List.length_nil, List.length_map, List.length_set]; omega))) only [wk, wb, run_block, run_seq, cnd_dec, cnd_ndec, hset_c0, wBuiltin, wAppend, wCopy, wClear, dsOf, ev, aput, aPick, aExtract, aBuiltin, aZeros, ↓reduceIte, Nat.reduceAdd, Nat.reduceSub, Nat.reduceMul, Nat.reduceEqDiff, reduceCtorEq, Int.reduceGT, Int.reduceLT, Int.reduceLE, Int.reduceGE, Int.reduceEq, Int.reduceToNat, Int.reduceAdd, Int.reduceSub, Int.reduceNeg, Int.reduceMul, Nat.reduceLeDiff, tys, hL3]
      refine ⟨(by (repeat' apply And.intro) <;> first | exact Or.inl (by decide +kernel) | exact Or.inr ⟨by simp, by simp; omega⟩ | exact Or.inr ⟨by simp; omega, by simp; omega⟩ | exact Or.inr ⟨by simp; omega, by simp⟩ | exact Or.inr ⟨by simp, by simp⟩), .inr ⟨m, f, a, y, rfl, hm, hm', hf, ha, by omega⟩, _, _, rfl, hs3.mono (by omega), (ho1.trans ho2).trans ho3, by omega⟩
end Go.Proofs.YtmjalehlcbfljaaDoor

/- The library functions that the journal calls, as the abstract machine sees them. -/
import Derived.Test.YtmjalehlcbfljaaDoorTxt
import Derived.Test.YtmjalehlcbfljaaDoorJLaw
import Derived.Test.YtmjalehlcbfljaaDoorShelf
set_option linter.unusedSectionVars false
set_option linter.defProp false
set_option linter.unusedVariables false
set_option linter.unusedSimpArgs false
set_option linter.unnecessarySimpa false
namespace Go.Proofs.YtmjalehlcbfljaaDoor
open Go Go.AM
set_option maxRecDepth 8000
theorem digR_dec (u : Nat) : Lib.decDigits u = if u = 0 then [48] else (digR u).reverse := by
  induction u using Nat.strongRecOn with
  | _ u ih =>
    rw [Lib.decDigits]
    by_cases h0 : u = 0
    · subst h0; simp
    · rw [if_neg h0, digR_pos u (by omega), List.reverse_cons]
      by_cases h : u < 10
      · rw [dif_pos h, Nat.div_eq_of_lt h, digR, Nat.mod_eq_of_lt h]; simp
      · rw [dif_neg h, ih (u / 10) (by omega), if_neg (by omega)]
theorem itoa_dec (n : Int) : Lib.itoa n = decB n := by
  unfold Lib.itoa decB
  by_cases h0 : n = 0
  · subst h0; simp [digR_dec]
  · rw [if_neg h0]
    by_cases h : n < 0
    · rw [if_pos h, if_pos h, digR_dec, if_neg (by omega)]; simp
    · rw [if_neg h, if_neg h, digR_dec, if_neg (by omega), show n.toNat = n.natAbs by omega]; simp
theorem grow_grew (w : World) (k : Nat) (os : Array Obj) : Grew w (Sort.grow (w.drewN k) os) :=
  ⟨rfl, rfl, rfl, by simp [Sort.grow, World.drewN], fun b hb => by simp only [Sort.grow, World.drewN]; rw [Array.getElem?_append_left hb]⟩
theorem fmt_ok (h : AHeap) (n : Int) (hn : inI n) : ∃ v t, ACp Tryd.prog 16 [.int .i64 n, .int .i64 10] h v t ∧ v = str (decB n) ∧ t = [] := by
  refine ⟨_, _, ACp.plain h (by kernel_rfl) (closed_str _) rfl fun w hw => ?_, rfl, rfl⟩
  have hn1 := hn.1; have hn2 := hn.2
  refine (Tryd.strconv_FormatInt_10 n hn1 (by omega) w hw).mono ?_
  rintro e w' ⟨rfl, k, os, rfl⟩
  exact ⟨by rw [itoa_dec]; rfl, grow_grew w k os⟩
theorem decimal_ok (h : AHeap) (n : Int) (hn : inI n) : ∃ v t, ACp Tryd.prog 21 [.int .i64 n] h v t ∧ v = str (decB n) ∧ t = [] := by
  refine ACp.walk Tryd.func21 rfl (by decide) (by kernel_rfl) mixed ?_
  simp (maxSteps := 4000000) (disch := (first | omega | (simp only [List.length_append, List.length_cons, List.length_nil, List.length_map, List.length_set]; omega))) only [wk, wb, run_block, run_seq, cnd_dec, cnd_ndec, hset_c0, wBuiltin, wAppend, wCopy, wClear, dsOf, ev, aput, aPick, aExtract, aBuiltin, aZeros, ↓reduceIte, Nat.reduceAdd, Nat.reduceSub, Nat.reduceMul, Nat.reduceEqDiff, reduceCtorEq, Int.reduceGT, Int.reduceLT, Int.reduceLE, Int.reduceGE, Int.reduceEq, Int.reduceToNat, Int.reduceAdd, Int.reduceSub, Int.reduceNeg, Int.reduceMul, Nat.reduceLeDiff, tys, Tryd.f21]
  obtain ⟨v, t, hc, rfl, rfl⟩ := fmt_ok (frz h) n hn
  refine acall.p hc ?_
  simp (maxSteps := 4000000) (disch := (first | omega | (simp only [List.length_append, List.length_cons, List.length_nil, List.length_map, List.length_set]; omega))) only [wk, wb, run_block, run_seq, cnd_dec, cnd_ndec, hset_c0, wBuiltin, wAppend, wCopy, wClear, dsOf, ev, aput, aPick, aExtract, aBuiltin, aZeros, ↓reduceIte, Nat.reduceAdd, Nat.reduceSub, Nat.reduceMul, Nat.reduceEqDiff, reduceCtorEq, Int.reduceGT, Int.reduceLT, Int.reduceLE, Int.reduceGE, Int.reduceEq, Int.reduceToNat, Int.reduceAdd, Int.reduceSub, Int.reduceNeg, Int.reduceMul, Nat.reduceLeDiff, tys]
  exact ⟨[], by simp, by first | exact ⟨rfl, rfl⟩ | exact rfl | simp⟩
/-- The first place of a byte, as an int. -/
def idxI (x : UInt8) (l : Bs) : Int := match idx x l with | some i => i | none => -1
theorem indexByte_idx (l : Bs) (c : UInt8) : Lib.indexByte l c = idxI c l := by
  induction l with
  | nil => rfl
  | cons b r ih =>
    simp only [Lib.indexByte, idxI, idx]
    by_cases h : b = c
    · simp [h]
    · rw [if_neg (by simpa using h), if_neg h, ih]
      unfold idxI
      cases idx c r with
      | none => simp
      | some i => simp
theorem idxI_some {x : UInt8} {l : Bs} {i : Nat} (h : idx x l = some i) : idxI x l = i := by simp [idxI, h]
theorem idxI_none {x : UInt8} {l : Bs} (h : idx x l = none) : idxI x l = -1 := by simp [idxI, h]
theorem ixb_ok (h : AHeap) (s : Bs) (c : UInt8) : ∃ v t, ACp Tryd.prog 50 [str s, .int .u8 c.toNat] h v t ∧ v = .int .i64 (idxI c s) ∧ t = [] := by
  refine ⟨_, _, ACp.plain h (by kernel_rfl) rfl rfl fun w hw => ?_, rfl, rfl⟩
  refine (Tryd.stringslite_IndexByte ⟨s.toArray⟩ c.toNat w).mono ?_
  rintro e w' ⟨rfl, rfl⟩
  refine ⟨?_, Grew.refl _⟩
  have : ((c.toNat : Int).toNat).toUInt8 = c := by simp
  rw [this, indexByte_idx]
theorem idxI_lt (x : UInt8) (l : Bs) : -1 ≤ idxI x l ∧ idxI x l < (l.length : Int) := by
  unfold idxI
  cases h : idx x l with
  | none => simp only []; omega
  | some i => have := (idx_some h).2.2; simp; omega
theorem index_ok (h : AHeap) (s : Bs) (c : UInt8) : ∃ v t, ACp Tryd.prog 43 [str s, str [c]] h v t ∧ v = .int .i64 (idxI c s) ∧ t = [] := by
  refine ACp.walk Tryd.func43 rfl (by decide) (by kernel_rfl) mixed ?_
  simp (maxSteps := 4000000) (disch := (first | omega | (simp only [List.length_append, List.length_cons, List.length_nil, List.length_map, List.length_set]; omega))) only [wk, wb, run_block, run_seq, cnd_dec, cnd_ndec, hset_c0, wBuiltin, wAppend, wCopy, wClear, dsOf, ev, aput, aPick, aExtract, aBuiltin, aZeros, ↓reduceIte, Nat.reduceAdd, Nat.reduceSub, Nat.reduceMul, Nat.reduceEqDiff, reduceCtorEq, Int.reduceGT, Int.reduceLT, Int.reduceLE, Int.reduceGE, Int.reduceEq, Int.reduceToNat, Int.reduceAdd, Int.reduceSub, Int.reduceNeg, Int.reduceMul, Nat.reduceLeDiff, tys, Tryd.f43, List.getD_cons_zero, List.getD_nil]
  refine ⟨fun he => ?_, fun he => ?_⟩
  · refine ⟨[], by simp, ?_, rfl⟩
    rw [← he]; simp [idxI, idx]
  · obtain ⟨v, t, hc, rfl, rfl⟩ := ixb_ok (frz h) s c
    refine acall.p hc ?_
    simp (maxSteps := 4000000) (disch := (first | omega | (simp only [List.length_append, List.length_cons, List.length_nil, List.length_map, List.length_set]; omega))) only [wk, wb, run_block, run_seq, cnd_dec, cnd_ndec, hset_c0, wBuiltin, wAppend, wCopy, wClear, dsOf, ev, aput, aPick, aExtract, aBuiltin, aZeros, ↓reduceIte, Nat.reduceAdd, Nat.reduceSub, Nat.reduceMul, Nat.reduceEqDiff, reduceCtorEq, Int.reduceGT, Int.reduceLT, Int.reduceLE, Int.reduceGE, Int.reduceEq, Int.reduceToNat, Int.reduceAdd, Int.reduceSub, Int.reduceNeg, Int.reduceMul, Nat.reduceLeDiff, tys]
    exact ⟨[], by simp, by first | exact ⟨rfl, rfl⟩ | exact rfl | simp⟩
theorem sindex_ok (h : AHeap) (s : Bs) (c : UInt8) : ∃ v t, ACp Tryd.prog 31 [str s, str [c]] h v t ∧ v = .int .i64 (idxI c s) ∧ t = [] := by
  refine ACp.walk Tryd.func31 rfl (by decide) (by kernel_rfl) mixed ?_
  simp (maxSteps := 4000000) (disch := (first | omega | (simp only [List.length_append, List.length_cons, List.length_nil, List.length_map, List.length_set]; omega))) only [wk, wb, run_block, run_seq, cnd_dec, cnd_ndec, hset_c0, wBuiltin, wAppend, wCopy, wClear, dsOf, ev, aput, aPick, aExtract, aBuiltin, aZeros, ↓reduceIte, Nat.reduceAdd, Nat.reduceSub, Nat.reduceMul, Nat.reduceEqDiff, reduceCtorEq, Int.reduceGT, Int.reduceLT, Int.reduceLE, Int.reduceGE, Int.reduceEq, Int.reduceToNat, Int.reduceAdd, Int.reduceSub, Int.reduceNeg, Int.reduceMul, Nat.reduceLeDiff, tys, Tryd.f31]
  obtain ⟨v, t, hc, rfl, rfl⟩ := index_ok (frz h) s c
  refine acall.p hc ?_
  simp (maxSteps := 4000000) (disch := (first | omega | (simp only [List.length_append, List.length_cons, List.length_nil, List.length_map, List.length_set]; omega))) only [wk, wb, run_block, run_seq, cnd_dec, cnd_ndec, hset_c0, wBuiltin, wAppend, wCopy, wClear, dsOf, ev, aput, aPick, aExtract, aBuiltin, aZeros, ↓reduceIte, Nat.reduceAdd, Nat.reduceSub, Nat.reduceMul, Nat.reduceEqDiff, reduceCtorEq, Int.reduceGT, Int.reduceLT, Int.reduceLE, Int.reduceGE, Int.reduceEq, Int.reduceToNat, Int.reduceAdd, Int.reduceSub, Int.reduceNeg, Int.reduceMul, Nat.reduceLeDiff, tys]
  exact ⟨[], by simp, by first | exact ⟨rfl, rfl⟩ | exact rfl | simp⟩
theorem contains_ok (h : AHeap) (s : Bs) (c : UInt8) : ∃ v t, ACp Tryd.prog 17 [str s, str [c]] h v t ∧ v = .bool (decide (c ∈ s)) ∧ t = [] := by
  refine ACp.walk Tryd.func17 rfl (by decide) (by kernel_rfl) mixed ?_
  simp (maxSteps := 4000000) (disch := (first | omega | (simp only [List.length_append, List.length_cons, List.length_nil, List.length_map, List.length_set]; omega))) only [wk, wb, run_block, run_seq, cnd_dec, cnd_ndec, hset_c0, wBuiltin, wAppend, wCopy, wClear, dsOf, ev, aput, aPick, aExtract, aBuiltin, aZeros, ↓reduceIte, Nat.reduceAdd, Nat.reduceSub, Nat.reduceMul, Nat.reduceEqDiff, reduceCtorEq, Int.reduceGT, Int.reduceLT, Int.reduceLE, Int.reduceGE, Int.reduceEq, Int.reduceToNat, Int.reduceAdd, Int.reduceSub, Int.reduceNeg, Int.reduceMul, Nat.reduceLeDiff, tys, Tryd.f17]
  obtain ⟨v, t, hc, rfl, rfl⟩ := sindex_ok (frz h) s c
  refine acall.p hc ?_
  simp (maxSteps := 4000000) (disch := (first | omega | (simp only [List.length_append, List.length_cons, List.length_nil, List.length_map, List.length_set]; omega))) only [wk, wb, run_block, run_seq, cnd_dec, cnd_ndec, hset_c0, wBuiltin, wAppend, wCopy, wClear, dsOf, ev, aput, aPick, aExtract, aBuiltin, aZeros, ↓reduceIte, Nat.reduceAdd, Nat.reduceSub, Nat.reduceMul, Nat.reduceEqDiff, reduceCtorEq, Int.reduceGT, Int.reduceLT, Int.reduceLE, Int.reduceGE, Int.reduceEq, Int.reduceToNat, Int.reduceAdd, Int.reduceSub, Int.reduceNeg, Int.reduceMul, Nat.reduceLeDiff, tys]
  refine ⟨[], by simp, ?_, rfl⟩
  congr 1
  rw [decide_eq_decide]
  cases hi : idx c s with
  | none => have := idx_none.1 hi; rw [idxI_none hi]; simp [this]
  | some i => have := (idx_some hi).1; rw [idxI_some hi]; constructor
              · intro _; rw [this]; simp
              · intro _; omega
/-- What strings.Cut gives at a mark of one byte. -/
def cutB (s : Bs) (c : UInt8) : Bs × Bs × Bool := match idx c s with | some i => (s.take i, s.drop (i + 1), true) | none => (s, [], false)
theorem cutl_ok (h : AHeap) (s : Bs) (c : UInt8) (hs : s.length < 4611686018427387904) : ∃ v t, ACp Tryd.prog 32 [str s, str [c]] h v t ∧ v = .tuple #[str (cutB s c).1, str (cutB s c).2.1, .bool (cutB s c).2.2] ∧ t = [] := by
  have hlt := idxI_lt c s
  refine ACp.walk Tryd.func32 rfl (by decide) (by kernel_rfl) mixed ?_
  simp (maxSteps := 4000000) (disch := (first | omega | (simp only [List.length_append, List.length_cons, List.length_nil, List.length_map, List.length_set]; omega))) only [wk, wb, run_block, run_seq, cnd_dec, cnd_ndec, hset_c0, wBuiltin, wAppend, wCopy, wClear, dsOf, ev, aput, aPick, aExtract, aBuiltin, aZeros, ↓reduceIte, Nat.reduceAdd, Nat.reduceSub, Nat.reduceMul, Nat.reduceEqDiff, reduceCtorEq, Int.reduceGT, Int.reduceLT, Int.reduceLE, Int.reduceGE, Int.reduceEq, Int.reduceToNat, Int.reduceAdd, Int.reduceSub, Int.reduceNeg, Int.reduceMul, Nat.reduceLeDiff, tys, Tryd.f32]
  obtain ⟨v, t, hc, rfl, rfl⟩ := index_ok (frz h) s c
  refine acall.p hc ?_
  simp (maxSteps := 4000000) (disch := (first | omega | (simp only [List.length_append, List.length_cons, List.length_nil, List.length_map, List.length_set]; omega))) only [wk, wb, run_block, run_seq, cnd_dec, cnd_ndec, hset_c0, wBuiltin, wAppend, wCopy, wClear, dsOf, ev, aput, aPick, aExtract, aBuiltin, aZeros, ↓reduceIte, Nat.reduceAdd, Nat.reduceSub, Nat.reduceMul, Nat.reduceEqDiff, reduceCtorEq, Int.reduceGT, Int.reduceLT, Int.reduceLE, Int.reduceGE, Int.reduceEq, Int.reduceToNat, Int.reduceAdd, Int.reduceSub, Int.reduceNeg, Int.reduceMul, Nat.reduceLeDiff, tys]
  refine ⟨fun h0 => ?_, fun h0 => ?_⟩
  · simp (maxSteps := 4000000) (disch := (first | omega | (simp only [List.length_append, List.length_cons, List.length_nil, List.length_map, List.length_set]; omega))) only [wk, wb, run_block, run_seq, cnd_dec, cnd_ndec, hset_c0, wBuiltin, wAppend, wCopy, wClear, dsOf, ev, aput, aPick, aExtract, aBuiltin, aZeros, ↓reduceIte, Nat.reduceAdd, Nat.reduceSub, Nat.reduceMul, Nat.reduceEqDiff, reduceCtorEq, Int.reduceGT, Int.reduceLT, Int.reduceLE, Int.reduceGE, Int.reduceEq, Int.reduceToNat, Int.reduceAdd, Int.reduceSub, Int.reduceNeg, Int.reduceMul, Nat.reduceLeDiff, tys]
    refine ⟨[], by simp, ?_, rfl⟩
    cases hi : idx c s with
    | none => rw [idxI_none hi] at h0; omega
    | some i =>
      rw [idxI_some hi]
      simp only [cutB, hi]
      rw [show ((i : Int) + 1).toNat = i + 1 by omega, show ((i : Int)).toNat = i by omega]
  · refine ⟨[], by simp, ?_, rfl⟩
    cases hi : idx c s with
    | none => simp only [cutB, hi]
    | some i => rw [idxI_some hi] at h0; omega
theorem cut_ok (h : AHeap) (s : Bs) (c : UInt8) (hs : s.length < 4611686018427387904) : ∃ v t, ACp Tryd.prog 20 [str s, str [c]] h v t ∧ v = .tuple #[str (cutB s c).1, str (cutB s c).2.1, .bool (cutB s c).2.2] ∧ t = [] := by
  refine ACp.walk Tryd.func20 rfl (by decide) (by kernel_rfl) mixed ?_
  simp (maxSteps := 4000000) (disch := (first | omega | (simp only [List.length_append, List.length_cons, List.length_nil, List.length_map, List.length_set]; omega))) only [wk, wb, run_block, run_seq, cnd_dec, cnd_ndec, hset_c0, wBuiltin, wAppend, wCopy, wClear, dsOf, ev, aput, aPick, aExtract, aBuiltin, aZeros, ↓reduceIte, Nat.reduceAdd, Nat.reduceSub, Nat.reduceMul, Nat.reduceEqDiff, reduceCtorEq, Int.reduceGT, Int.reduceLT, Int.reduceLE, Int.reduceGE, Int.reduceEq, Int.reduceToNat, Int.reduceAdd, Int.reduceSub, Int.reduceNeg, Int.reduceMul, Nat.reduceLeDiff, tys, Tryd.f20]
  obtain ⟨v, t, hc, rfl, rfl⟩ := cutl_ok (frz h) s c hs
  refine acall.p hc ?_
  simp (maxSteps := 4000000) (disch := (first | omega | (simp only [List.length_append, List.length_cons, List.length_nil, List.length_map, List.length_set]; omega))) only [wk, wb, run_block, run_seq, cnd_dec, cnd_ndec, hset_c0, wBuiltin, wAppend, wCopy, wClear, dsOf, ev, aput, aPick, aExtract, aBuiltin, aZeros, ↓reduceIte, Nat.reduceAdd, Nat.reduceSub, Nat.reduceMul, Nat.reduceEqDiff, reduceCtorEq, Int.reduceGT, Int.reduceLT, Int.reduceLE, Int.reduceGE, Int.reduceEq, Int.reduceToNat, Int.reduceAdd, Int.reduceSub, Int.reduceNeg, Int.reduceMul, Nat.reduceLeDiff, tys]
  exact ⟨[], by simp, by first | exact ⟨rfl, rfl⟩ | exact rfl | simp⟩
end Go.Proofs.YtmjalehlcbfljaaDoor

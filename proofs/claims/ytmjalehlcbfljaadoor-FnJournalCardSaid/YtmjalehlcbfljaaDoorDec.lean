/- The decimal text of a number: impl's and the library's writers print the same digits, and the reader reads them back. -/
import Derived.Test.YtmjalehlcbfljaaDoorTy
import Derived.Test.YtmjalehlcbfljaaDoorAmZ
set_option linter.unusedSectionVars false
set_option linter.defProp false
set_option linter.unusedVariables false
set_option linter.unusedSimpArgs false
set_option linter.unnecessarySimpa false
namespace Go.Proofs.YtmjalehlcbfljaaDoor
open Go Go.AM
set_option maxRecDepth 8000
/-- The decimal digits, the last one ahead. -/
def digR : Nat → List UInt8
  | 0 => []
  | n + 1 => UInt8.ofNat (48 + (n + 1) % 10) :: digR ((n + 1) / 10)
theorem digR_pos (n : Nat) (h : 0 < n) : digR n = UInt8.ofNat (48 + n % 10) :: digR (n / 10) := by
  obtain ⟨m, rfl⟩ : ∃ m, n = m + 1 := ⟨n - 1, by omega⟩
  rw [digR]
theorem digR_len : ∀ (k n : Nat), n < 10 ^ k → (digR n).length ≤ k := by
  intro k
  induction k with
  | zero => intro n h; have h0 : n = 0 := by simp at h; exact h
            subst h0; simp [digR]
  | succ k ih =>
    intro n h
    rcases Nat.eq_zero_or_pos n with rfl | hn
    · simp [digR]
    · rw [digR_pos n hn, List.length_cons]
      have := ih (n / 10) (by rw [Nat.pow_succ] at h; omega)
      omega
def decB (n : Int) : List UInt8 := if n = 0 then [48] else (if n < 0 then [45] else []) ++ (digR n.natAbs).reverse
def byteV (b : UInt8) : Value := .int .u8 b.toNat
theorem byteV_cell (l : List UInt8) : ∀ v ∈ l.map byteV, isCell v = true := by
  intro v hv; obtain ⟨b, _, rfl⟩ := List.mem_map.1 hv; rfl

theorem dec_ok (h : AHeap) (n : Int) (hn : -9223372036854775808 ≤ n ∧ n < 9223372036854775808) : ∃ v t, ACp Tryd.prog 27 [.int .i64 n] h v t ∧ v = str (decB n) := by
  obtain ⟨L, hL⟩ : ∃ L, h.length = L := ⟨_, rfl⟩
  have hLf : (frz h).length = L := by simpa using hL
  refine ACp.walk Tryd.func27 rfl (by decide) (by kernel_rfl) mixed ?_
  simp (maxSteps := 4000000) (disch := (first | omega | (simp only [List.length_append, List.length_cons, List.length_nil, List.length_map, List.length_set]; omega))) only [wk, wb, run_block, run_seq, cnd_dec, cnd_ndec, hset_c0, wBuiltin, wAppend, wCopy, wClear, dsOf, ev, aput, aPick, aExtract, aBuiltin, aZeros, ↓reduceIte, Nat.reduceAdd, Nat.reduceSub, Nat.reduceMul, Nat.reduceEqDiff, reduceCtorEq, Int.reduceGT, Int.reduceLT, Int.reduceLE, Int.reduceGE, Int.reduceEq, Int.reduceToNat, Int.reduceAdd, Int.reduceSub, Int.reduceNeg, Int.reduceMul, Nat.reduceLeDiff, tys, Tryd.f27, hL]
  refine ⟨fun h0 => ⟨[], by simp, by simp [decB, h0]⟩, fun h0 => ?_⟩
  have hlen : (digR n.natAbs).length ≤ 19 := digR_len 19 _ (by omega)
  refine RL.wf (α := Int × List UInt8 × Value × AHeap) (fun x => x.1.natAbs) (fun x => flg 0 50 [(0, .int .i64 n), (3, x.2.2.1), (4, .int .i64 x.1)]) (fun x => frz h ++ x.2.2.2)
    (fun x => x.2.1 ++ digR x.1.natAbs = digR n.natAbs ∧ Own (frz h ++ x.2.2.2) L x.2.2.1 x.2.1.length 1 5 (x.2.1.map byteV) ∧ x.1.natAbs ≤ n.natAbs ∧ (-9223372036854775808 ≤ x.1 ∧ x.1 < 9223372036854775808)) ?_
    (n, [], .slice (some ⟨L, 0, none⟩) 0 0, [⟨[], 5, true⟩]) ⟨rfl, Own.empty _ _ (by omega) (by simp; omega), by omega, hn⟩ _ _ (by simp only [flg_z, flg_n, flg_c, ↓reduceIte, Nat.reduceEqDiff, Nat.reduceAdd]; repeat (first | exact FLe.nil | apply FLe.junk | apply FLe.same)) (HLe.refl _)
  rintro ⟨r, ds, v, t⟩ ⟨h1, h2, h3, h4⟩ ih
  simp only at h1 h2 h3 h4 ih
  have hdl : ds.length + (digR r.natAbs).length ≤ 19 := by rw [← h1] at hlen; simpa using hlen
  refine RL.round ?_
  by_cases hr0 : r = 0
  · -- all digits are there
    subst hr0
    rw [show (0 : Int).natAbs = 0 from rfl, digR, List.append_nil] at h1
    simp (maxSteps := 4000000) (disch := (first | omega | (simp only [List.length_append, List.length_cons, List.length_nil, List.length_map, List.length_set]; omega))) only [wk, wb, run_block, run_seq, hset_c0, wBuiltin, wAppend, wCopy, wClear, dsOf, ev, aput, aPick, aExtract, aBuiltin, aZeros, ↓reduceIte, Nat.reduceAdd, Nat.reduceSub, Nat.reduceMul, Nat.reduceEqDiff, reduceCtorEq, Int.reduceGT, Int.reduceLT, Int.reduceLE, Int.reduceGE, Int.reduceEq, Int.reduceToNat, Int.reduceAdd, Int.reduceSub, Int.reduceNeg, Int.reduceMul, Nat.reduceLeDiff, tys, hL, Int.lt_irrefl]
    refine cnd_cut (α := List UInt8 × Value × AHeap) 50 (fun x => [(3, x.2.1)]) (fun x => frz h ++ x.2.2) (fun x => x.1.reverse = decB n ∧ Own (frz h ++ x.2.2) L x.2.1 x.1.length 1 5 (x.1.map byteV) ∧ x.1.length ≤ 20) ?_ ?_
    · simp (maxSteps := 4000000) (disch := (first | omega | (simp only [List.length_append, List.length_cons, List.length_nil, List.length_map, List.length_set]; omega))) only [wk, wb, run_block, run_seq, cnd_dec, cnd_ndec, hset_c0, wBuiltin, wAppend, wCopy, wClear, dsOf, ev, aput, aPick, aExtract, aBuiltin, aZeros, ↓reduceIte, Nat.reduceAdd, Nat.reduceSub, Nat.reduceMul, Nat.reduceEqDiff, reduceCtorEq, Int.reduceGT, Int.reduceLT, Int.reduceLE, Int.reduceGE, Int.reduceEq, Int.reduceToNat, Int.reduceAdd, Int.reduceSub, Int.reduceNeg, Int.reduceMul, Nat.reduceLeDiff, tys, hL]
      refine ⟨fun hneg => ?_, fun hneg => ?_⟩
      · obtain ⟨v', t', k1, k2, k3⟩ := h2.push1 (P := Tryd.prog) hLf (ty := 22) (zs := [.int .u8 45]) se22 ti5 rfl rfl rfl (by simp; rfl) (by simp only; omega) (by omega)
        simp (maxSteps := 4000000) (disch := (first | omega | (simp only [List.length_append, List.length_cons, List.length_nil, List.length_map, List.length_set]; omega))) only [wk, wb, run_block, run_seq, cnd_dec, cnd_ndec, hset_c0, wBuiltin, wAppend, wCopy, wClear, dsOf, ev, aput, aPick, aExtract, aBuiltin, aZeros, ↓reduceIte, Nat.reduceAdd, Nat.reduceSub, Nat.reduceMul, Nat.reduceEqDiff, reduceCtorEq, Int.reduceGT, Int.reduceLT, Int.reduceLE, Int.reduceGE, Int.reduceEq, Int.reduceToNat, Int.reduceAdd, Int.reduceSub, Int.reduceNeg, Int.reduceMul, Nat.reduceLeDiff, tys, k1]
        exact ⟨(ds ++ [45], v', t'), ⟨by simp [decB, h0, hneg, h1], by simpa [byteV] using k2, by simp; omega⟩, (by repeat (first | exact FrI.nil _ rfl | refine FrI.cons rfl ?_)), rfl⟩
      · exact ⟨(ds, v, t), ⟨by simp [decB, h0, hneg, h1], h2, by simp only; omega⟩, (by repeat (first | exact FrI.nil _ rfl | refine FrI.cons rfl ?_)), rfl⟩
    · rintro ⟨es, w, u⟩ fr ⟨k1, k2, k3⟩ hF
      simp only at k1 k2 k3 hF
      rw [hF.lit]; simp only [flx_z, flx_n, flx_c, ↓reduceIte, Nat.reduceEqDiff, Nat.reduceAdd]
      have hrow := k2.row
      simp (maxSteps := 4000000) (disch := (first | omega | (simp only [List.length_append, List.length_cons, List.length_nil, List.length_map, List.length_set]; omega))) only [wk, wb, run_block, run_seq, cnd_dec, cnd_ndec, hset_c0, wBuiltin, wAppend, wCopy, wClear, dsOf, ev, aput, aPick, aExtract, aBuiltin, aZeros, ↓reduceIte, Nat.reduceAdd, Nat.reduceSub, Nat.reduceMul, Nat.reduceEqDiff, reduceCtorEq, Int.reduceGT, Int.reduceLT, Int.reduceLE, Int.reduceGE, Int.reduceEq, Int.reduceToNat, Int.reduceAdd, Int.reduceSub, Int.reduceNeg, Int.reduceMul, Nat.reduceLeDiff, tys, hL, hrow.alen]
      refine RL.wf (α := Nat × List UInt8 × Value × AHeap) (fun x => x.1) (fun x => flg 0 50 [(3, w), (6, x.2.2.1), (7, .int .i64 ((x.1 : Int) - 1))]) (fun x => frz h ++ x.2.2.2)
        (fun x => x.1 ≤ es.length ∧ x.2.1 = (es.drop x.1).reverse ∧ Own (frz h ++ x.2.2.2) L x.2.2.1 x.2.1.length 1 5 (x.2.1.map byteV) ∧ Own (frz h ++ x.2.2.2) L w es.length 1 5 (es.map byteV) ∧ (0 < x.2.1.length → 0 < es.length → sid w ≠ sid x.2.2.1)
          ∧ (x.2.1.length = 0 → ∀ id off c, x.2.2.1 = .slice (some ⟨id, off, none⟩) 0 c → ∃ cs, rd (frz h ++ x.2.2.2) id = some cs ∧ off ≤ cs.length)) ?_
        (es.length, [], .slice (some ⟨L + u.length, 0, none⟩) 0 0, u ++ [⟨[], 5, true⟩]) ⟨by omega, by simp, Own.empty _ _ (by omega) (by simp; omega), by simpa using k2.app [⟨[], 5, true⟩], by simp, ?_⟩ _ _ (by simp only [flg_z, flg_n, flg_c, ↓reduceIte, Nat.reduceEqDiff, Nat.reduceAdd]; repeat (first | exact FLe.nil | apply FLe.junk | apply FLe.same)) (HLe.refl _)
      · rintro ⟨j, out, w2, u2⟩ ⟨j1, j2, j3, j4, j5, j6⟩ ih2
        simp only at j1 j2 j3 j4 j5 j6 ih2
        refine RL.round ?_
        have hrow4 := j4.row
        simp (maxSteps := 4000000) (disch := (first | omega | (simp only [List.length_append, List.length_cons, List.length_nil, List.length_map, List.length_set]; omega))) only [wk, wb, run_block, run_seq, cnd_dec, cnd_ndec, hset_c0, wBuiltin, wAppend, wCopy, wClear, dsOf, ev, aput, aPick, aExtract, aBuiltin, aZeros, ↓reduceIte, Nat.reduceAdd, Nat.reduceSub, Nat.reduceMul, Nat.reduceEqDiff, reduceCtorEq, Int.reduceGT, Int.reduceLT, Int.reduceLE, Int.reduceGE, Int.reduceEq, Int.reduceToNat, Int.reduceAdd, Int.reduceSub, Int.reduceNeg, Int.reduceMul, Nat.reduceLeDiff, tys]
        refine ⟨fun hj => ?_, fun hj => ?_⟩
        · have hj' : j - 1 < es.length := by omega
          have e1 : ((j : Int) - 1).toNat = j - 1 := by omega
          have hcell : ∀ i, i < es.length → (es.map byteV).getD i undef = byteV (es.getD i 0) := by
            intro i hi; simp [List.getD_eq_getElem?_getD, hi]
          simp (maxSteps := 4000000) (disch := (first | omega | (simp only [List.length_append, List.length_cons, List.length_nil, List.length_map, List.length_set]; omega))) only [wk, wb, run_block, run_seq, cnd_dec, cnd_ndec, hset_c0, wBuiltin, wAppend, wCopy, wClear, dsOf, ev, aput, aPick, aExtract, aBuiltin, aZeros, ↓reduceIte, Nat.reduceAdd, Nat.reduceSub, Nat.reduceMul, Nat.reduceEqDiff, reduceCtorEq, Int.reduceGT, Int.reduceLT, Int.reduceLE, Int.reduceGE, Int.reduceEq, Int.reduceToNat, Int.reduceAdd, Int.reduceSub, Int.reduceNeg, Int.reduceMul, Nat.reduceLeDiff, tys, hL, hrow4.idx, e1, hrow4.cell, hcell, byteV]
          obtain ⟨v', t', k1, k2, k3⟩ := j3.push1 (P := Tryd.prog) hLf (ty := 22) (zs := [.int .u8 (es.getD (j - 1) 0).toNat]) se22 ti5 rfl rfl rfl (by simp; rfl) (by simp only [j2, List.length_reverse, List.length_drop]; omega) (by simp only [j2, List.length_reverse, List.length_drop]; omega)
          rw [k1]
          simp (maxSteps := 4000000) (disch := (first | omega | (simp only [List.length_append, List.length_cons, List.length_nil, List.length_map, List.length_set]; omega))) only [wk, wb, run_block, run_seq, cnd_dec, cnd_ndec, hset_c0, wBuiltin, wAppend, wCopy, wClear, dsOf, ev, aput, aPick, aExtract, aBuiltin, aZeros, ↓reduceIte, Nat.reduceAdd, Nat.reduceSub, Nat.reduceMul, Nat.reduceEqDiff, reduceCtorEq, Int.reduceGT, Int.reduceLT, Int.reduceLE, Int.reduceGE, Int.reduceEq, Int.reduceToNat, Int.reduceAdd, Int.reduceSub, Int.reduceNeg, Int.reduceMul, Nat.reduceLeDiff, tys]
          rw [show (j : Int) - 1 - 1 = ((j - 1 : Nat) : Int) - 1 by omega]
          have hw := (j4.sid_lt (by omega)).2
          have hid := k3.idr
          simp only [List.length_append, hLf] at hw
          refine ih2 (j - 1, out ++ [es.getD (j - 1) 0], v', t') (by simp only; omega) ⟨by simp only; omega, ?_, by simpa [byteV] using k2, k3.own j4 (fun h1 h2 => j5 h1 h2), fun _ _ => by simp only; omega, fun h => by simp at h⟩ _ _ (by simp only [flg_z, flg_n, flg_c, ↓reduceIte, Nat.reduceEqDiff, Nat.reduceAdd]; repeat (first | exact FLe.nil | apply FLe.junk | apply FLe.same)) (HLe.refl _)
          rw [j2]
          have : es.drop (j - 1) = es.getD (j - 1) 0 :: es.drop j := by
            rw [List.drop_eq_getElem_cons hj', List.getD_eq_getElem?_getD, List.getElem?_eq_getElem hj', show j - 1 + 1 = j by omega]; rfl
          rw [this]; simp
        · have hj0 : j = 0 := by omega
          subst hj0
          have hout : out = decB n := by rw [j2, ← k1]; simp
          simp (maxSteps := 4000000) (disch := (first | omega | (simp only [List.length_append, List.length_cons, List.length_nil, List.length_map, List.length_set]; omega))) only [wk, wb, run_block, run_seq, cnd_dec, cnd_ndec, hset_c0, wBuiltin, wAppend, wCopy, wClear, dsOf, ev, aput, aPick, aExtract, aBuiltin, aZeros, ↓reduceIte, Nat.reduceAdd, Nat.reduceSub, Nat.reduceMul, Nat.reduceEqDiff, reduceCtorEq, Int.reduceGT, Int.reduceLT, Int.reduceLE, Int.reduceGE, Int.reduceEq, Int.reduceToNat, Int.reduceAdd, Int.reduceSub, Int.reduceNeg, Int.reduceMul, Nat.reduceLeDiff, tys, j3.row.toStr (P := Tryd.prog) (l := out) (s := 22) (d := 9) (e := 5) st9 se22 (by kernel_rfl) j6]
          exact ⟨u2, rfl, by rw [hout]⟩
      · intro _ id off c hc
        cases hc
        exact ⟨[], by rw [show frz h ++ (u ++ [⟨[], 5, true⟩]) = (frz h ++ u) ++ [⟨[], 5, true⟩] by simp, show L + u.length = (frz h ++ u).length by simp [hL], rd_new _ _ []], by simp⟩
  · -- a digit more
    have push : ∀ (x : Int) (hx : 0 ≤ x ∧ x < 10), ∃ v' t', aAppend Tryd.prog 22 22 v (.slice (some ⟨L + t.length, 0, none⟩) 1 1) (frz h ++ (t ++ [⟨[.int .u8 (48 + x)], 5, true⟩])) = some (v', frz h ++ t') ∧
        Own (frz h ++ t') L v' (ds ++ [UInt8.ofNat (48 + x.toNat)]).length 1 5 ((ds ++ [UInt8.ofNat (48 + x.toNat)]).map byteV) := by
      intro x hx
      have hl : 0 < (digR r.natAbs).length := by rw [digR_pos r.natAbs (by omega)]; simp
      obtain ⟨v', t', k1, k2, _⟩ := h2.push1 (P := Tryd.prog) hLf (ty := 22) (zs := [.int .u8 (48 + x)]) se22 ti5 rfl rfl rfl (by simp; rfl) (by simp only; omega) (by omega)
      refine ⟨v', t', k1, ?_⟩
      have e : (((UInt8.ofNat (48 + x.toNat)).toNat : Nat) : Int) = 48 + x := by
        have : (UInt8.ofNat (48 + x.toNat)).toNat = 48 + x.toNat := by simp; omega
        omega
      simp only [List.map_append, List.map_cons, List.map_nil, byteV, e, List.length_append, List.length_cons, List.length_nil]
      simpa [byteV] using k2
    have hstep : ds ++ [UInt8.ofNat (48 + r.natAbs % 10)] ++ digR (r.natAbs / 10) = digR n.natAbs := by
      rw [← h1, List.append_assoc, digR_pos r.natAbs (by omega)]; rfl
    rcases Int.lt_or_le r 0 with hr | hr
    · obtain ⟨m, rfl⟩ : ∃ m : Nat, r = -(m : Int) := ⟨r.natAbs, by omega⟩
      have q1 : (-(m : Int)).tmod 10 = -((m : Int) % 10) := by rw [Int.neg_tmod, Int.tmod_eq_emod_of_nonneg (by omega)]
      have q2 : (-(m : Int)).tdiv 10 = -((m : Int) / 10) := by rw [Int.neg_tdiv, Int.tdiv_eq_ediv_of_nonneg (by omega)]
      obtain ⟨v', t', k1, k2⟩ := push ((m : Int) % 10) (by omega)
      have e2 : (0 : Int) - -((m : Int) % 10) = (m : Int) % 10 := by omega
      simp (maxSteps := 4000000) (disch := (first | omega | (simp only [List.length_append, List.length_cons, List.length_nil, List.length_map, List.length_set]; omega))) only [wk, wb, run_block, run_seq, cnd_dec, cnd_ndec, hset_c0, wBuiltin, wAppend, wCopy, wClear, dsOf, ev, aput, aPick, aExtract, aBuiltin, aZeros, ↓reduceIte, Nat.reduceAdd, Nat.reduceSub, Nat.reduceMul, Nat.reduceEqDiff, reduceCtorEq, Int.reduceGT, Int.reduceLT, Int.reduceLE, Int.reduceGE, Int.reduceEq, Int.reduceToNat, Int.reduceAdd, Int.reduceSub, Int.reduceNeg, Int.reduceMul, Nat.reduceLeDiff, tys, hL, q1, q2, e2, k1]
      have hm : 0 < m := by omega
      have q3 : (-((m : Int) / 10)).natAbs = m / 10 := by omega
      have go := ih (-((m : Int) / 10), ds ++ [UInt8.ofNat (48 + ((m : Int) % 10).toNat)], v', t') (by simp only; omega) ⟨by
        have e5 : (-(m : Int)).natAbs = m := by clear q1 q2; omega
        have e6 : ((m : Int) % 10).toNat = m % 10 := by clear q1 q2; omega
        rw [e5] at hstep
        simp only [q3, e6]; exact hstep, by simpa using k2, by simp only; omega, by simp only; omega⟩
      refine ⟨fun hx => absurd hx hr0, fun _ => ⟨fun _ => go _ _ (by simp only [flg_z, flg_n, flg_c, ↓reduceIte, Nat.reduceEqDiff, Nat.reduceAdd]; repeat (first | exact FLe.nil | apply FLe.junk | apply FLe.same)) (HLe.refl _), fun hx => ?_⟩⟩
      have hz : (m : Int) % 10 = 0 := by clear q1 q2 k1 k2; omega
      rw [show (48 : Int) + -((m : Int) % 10) = 48 + (m : Int) % 10 by rw [hz]; rfl, k1]
      simp (maxSteps := 4000000) (disch := (first | omega | (simp only [List.length_append, List.length_cons, List.length_nil, List.length_map, List.length_set]; omega))) only [wk, wb, run_block, run_seq, cnd_dec, cnd_ndec, hset_c0, wBuiltin, wAppend, wCopy, wClear, dsOf, ev, aput, aPick, aExtract, aBuiltin, aZeros, ↓reduceIte, Nat.reduceAdd, Nat.reduceSub, Nat.reduceMul, Nat.reduceEqDiff, reduceCtorEq, Int.reduceGT, Int.reduceLT, Int.reduceLE, Int.reduceGE, Int.reduceEq, Int.reduceToNat, Int.reduceAdd, Int.reduceSub, Int.reduceNeg, Int.reduceMul, Nat.reduceLeDiff, tys, q1, q2]
      exact go _ _ (by simp only [flg_z, flg_n, flg_c, ↓reduceIte, Nat.reduceEqDiff, Nat.reduceAdd]; repeat (first | exact FLe.nil | apply FLe.junk | apply FLe.same)) (HLe.refl _)
    · obtain ⟨m, rfl⟩ : ∃ m : Nat, r = (m : Int) := ⟨r.natAbs, by omega⟩
      obtain ⟨v', t', k1, k2⟩ := push ((m : Int) % 10) (by omega)
      simp (maxSteps := 4000000) (disch := (first | omega | (simp only [List.length_append, List.length_cons, List.length_nil, List.length_map, List.length_set]; omega))) only [wk, wb, run_block, run_seq, cnd_dec, cnd_ndec, hset_c0, wBuiltin, wAppend, wCopy, wClear, dsOf, ev, aput, aPick, aExtract, aBuiltin, aZeros, ↓reduceIte, Nat.reduceAdd, Nat.reduceSub, Nat.reduceMul, Nat.reduceEqDiff, reduceCtorEq, Int.reduceGT, Int.reduceLT, Int.reduceLE, Int.reduceGE, Int.reduceEq, Int.reduceToNat, Int.reduceAdd, Int.reduceSub, Int.reduceNeg, Int.reduceMul, Nat.reduceLeDiff, tys, hL, k1]
      refine ⟨fun hx => absurd hx hr0, fun _ => ⟨fun hx => by exfalso; omega, fun _ => ?_⟩⟩
      refine ih ((m : Int) / 10, ds ++ [UInt8.ofNat (48 + ((m : Int) % 10).toNat)], v', t') (by simp only; omega) ⟨?_, by simpa using k2, by simp only; omega, by simp only; omega⟩ _ _ (by simp only [flg_z, flg_n, flg_c, ↓reduceIte, Nat.reduceEqDiff, Nat.reduceAdd]; repeat (first | exact FLe.nil | apply FLe.junk | apply FLe.same)) (HLe.refl _)
      have q3 : ((m : Int) / 10).natAbs = m / 10 := by omega
      have e5 : ((m : Int)).natAbs = m := by omega
      have e6 : ((m : Int) % 10).toNat = m % 10 := by omega
      rw [e5] at hstep
      simp only [q3, e6]; exact hstep
end Go.Proofs.YtmjalehlcbfljaaDoor

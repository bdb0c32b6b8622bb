/- The lines of a lab. -/
import Derived.Test.YtmjalehlcbfljaaDoorLine
set_option linter.unusedSectionVars false
set_option linter.defProp false
set_option linter.unusedVariables false
set_option linter.unusedSimpArgs false
set_option linter.unnecessarySimpa false
namespace Go.Proofs.YtmjalehlcbfljaaDoor
open Go Go.AM
set_option maxRecDepth 8000
set_option maxHeartbeats 4000000
theorem long_ok (h : AHeap) (a b : Value) (la lb : List Value) (ha : Row h a la.length 1 la) (hb : Row h b lb.length 1 lb) (hla : la.length < 9223372036854775808) (hlb : lb.length < 9223372036854775808) : ∃ v t, ACp Tryd.prog 4 [a, b] h v t ∧ v = .bool (decide (1048576 < la.length) || decide (1048576 < lb.length)) ∧ t = [] := by
  refine ACp.walk Tryd.func4 rfl (by decide) (by kernel_rfl) mixed ?_
  simp (maxSteps := 4000000) (disch := (first | omega | (simp only [List.length_append, List.length_cons, List.length_nil, List.length_map, List.length_set]; omega))) only [wk, wb, run_block, run_seq, cnd_dec, cnd_ndec, hset_c0, wBuiltin, wAppend, wCopy, wClear, dsOf, ev, aput, aPick, aExtract, aBuiltin, aZeros, ↓reduceIte, Nat.reduceAdd, Nat.reduceSub, Nat.reduceMul, Nat.reduceEqDiff, reduceCtorEq, Int.reduceGT, Int.reduceLT, Int.reduceLE, Int.reduceGE, Int.reduceEq, Int.reduceToNat, Int.reduceAdd, Int.reduceSub, Int.reduceNeg, Int.reduceMul, Nat.reduceLeDiff, tys, Tryd.f4, ha.alen, hb.alen]
  by_cases h1 : 1048576 < la.length
  · have : ¬ (la.length : Int) ≤ 1048576 := by omega
    refine ⟨fun _ => ⟨[], by simp, by simp [h1], rfl⟩, fun h => by omega⟩
  · refine ⟨fun h => by omega, fun _ => ⟨[], by simp, ?_, rfl⟩⟩
    have : decide ((1048576 : Int) < (lb.length : Int)) = decide (1048576 < lb.length) := by rw [decide_eq_decide]; omega
    simp [h1, this]
theorem at_ok (h : AHeap) (a : Value) (l : List UInt8) (ha : Row h a l.length 1 (l.map fun b => .int .u8 b.toNat)) (hl : l.length < 9223372036854775808) (i n : Nat) (hi : i < 1000) (hn : 1 < n ∧ n ≤ 256) : ∃ v t, ACp Tryd.prog 8 [a, .int .i64 i, .int .i64 n] h v t ∧ (∃ x : Nat, v = .int .i64 x ∧ x < n) ∧ t = [] := by
  refine ACp.walk Tryd.func8 rfl (by decide) (by kernel_rfl) mixed ?_
  simp (maxSteps := 4000000) (disch := (first | omega | (simp only [List.length_append, List.length_cons, List.length_nil, List.length_map, List.length_set]; omega))) only [wk, wb, run_block, run_seq, cnd_dec, cnd_ndec, hset_c0, wBuiltin, wAppend, wCopy, wClear, dsOf, ev, aput, aPick, aExtract, aBuiltin, aZeros, ↓reduceIte, Nat.reduceAdd, Nat.reduceSub, Nat.reduceMul, Nat.reduceEqDiff, reduceCtorEq, Int.reduceGT, Int.reduceLT, Int.reduceLE, Int.reduceGE, Int.reduceEq, Int.reduceToNat, Int.reduceAdd, Int.reduceSub, Int.reduceNeg, Int.reduceMul, Nat.reduceLeDiff, tys, Tryd.f8, ha.alen]
  refine ⟨fun h => by omega, fun _ => ⟨fun hlt => ?_, fun hge => ?_⟩⟩
  · have hcell : ∀ j : Nat, (l.map fun b => Value.int .u8 (b.toNat : Int)).getD j undef = if j < l.length then .int .u8 (l.getD j 0).toNat else undef := by
      intro j; by_cases hj : j < l.length <;> simp [List.getD_eq_getElem?_getD, hj]
    have hil : i < l.length := by omega
    have hb := (l.getD i 0).toNat_lt
    simp (maxSteps := 4000000) (disch := (first | omega | (simp only [List.length_append, List.length_cons, List.length_nil, List.length_map, List.length_set]; omega))) only [wk, wb, run_block, run_seq, cnd_dec, cnd_ndec, hset_c0, wBuiltin, wAppend, wCopy, wClear, dsOf, ev, aput, aPick, aExtract, aBuiltin, aZeros, ↓reduceIte, Nat.reduceAdd, Nat.reduceSub, Nat.reduceMul, Nat.reduceEqDiff, reduceCtorEq, Int.reduceGT, Int.reduceLT, Int.reduceLE, Int.reduceGE, Int.reduceEq, Int.reduceToNat, Int.reduceAdd, Int.reduceSub, Int.reduceNeg, Int.reduceMul, Nat.reduceLeDiff, tys, ha.idx, ha.frz.cell, ha.cell, hcell, hil]
    refine ⟨[], by simp, ⟨(l.getD i 0).toNat % n, by rw [Int.natCast_emod], Nat.mod_lt _ (by omega)⟩, rfl⟩
  · refine ⟨[], by simp, ⟨(i * 37 + 11) % n, by rw [Int.natCast_emod]; congr 1, Nat.mod_lt _ (by omega)⟩, rfl⟩
theorem lines_ok (h : AHeap) (cv : Value) (l : List UInt8) (hr : Row h cv l.length 1 (l.map fun b => .int .u8 b.toNat)) (hl : l.length < 4611686018427387904) (nv sv : Value) (names : List Bs) (hrow : Row h nv names.length 1 (names.map str)) (hsv : isCell sv = true)
    (hnl : names.length < 1000) (hnz : names.length = 0 → sid nv < h.length + 1) (htx : ∀ x ∈ names, tx x 10) : ∃ v t, ACp Tryd.prog 5 [cv, .agg #[nv, sv]] h v t ∧ ∃ lines : List Bs, Row (h ++ t) v lines.length 1 (lines.map str) ∧ lines.length ≤ 6 ∧ ∀ x ∈ lines, tx x 150 := by
  obtain ⟨L, hL⟩ : ∃ L, h.length = L := ⟨_, rfl⟩
  have hLf : (frz h).length = L := by simpa using hL
  have c1 := hrow.isCell
  refine ACp.walk Tryd.func5 rfl (by decide) (by kernel_rfl) mixed ?_
  simp (maxSteps := 4000000) (disch := (first | omega | (simp only [List.length_append, List.length_cons, List.length_nil, List.length_map, List.length_set]; omega))) only [wk, wb, run_block, run_seq, cnd_dec, cnd_ndec, hset_c0, wBuiltin, wAppend, wCopy, wClear, dsOf, ev, aput, aPick, aExtract, aBuiltin, aZeros, ↓reduceIte, Nat.reduceAdd, Nat.reduceSub, Nat.reduceMul, Nat.reduceEqDiff, reduceCtorEq, Int.reduceGT, Int.reduceLT, Int.reduceLE, Int.reduceGE, Int.reduceEq, Int.reduceToNat, Int.reduceAdd, Int.reduceSub, Int.reduceNeg, Int.reduceMul, Nat.reduceLeDiff, tys, Tryd.f5, hL, c1, hsv]
  obtain ⟨v, t, hc, rfl, rfl⟩ := from_ok (frz h ++ [⟨[nv, sv], 28, true⟩]) cv hr.isCell rfl
  refine acall.p hc ?_
  have hsrc := Src.new (frz h) [⟨[nv, sv], 28, true⟩] cv l hr.frz hl (fun hn => hr.frz.lt hn)
  simp only [hLf, List.length_cons, List.length_nil, List.cons_append, List.nil_append, Nat.zero_add] at hsrc
  simp (maxSteps := 4000000) (disch := (first | omega | (simp only [List.length_append, List.length_cons, List.length_nil, List.length_map, List.length_set]; omega))) only [wk, wb, run_block, run_seq, cnd_dec, cnd_ndec, hset_c0, wBuiltin, wAppend, wCopy, wClear, dsOf, ev, aput, aPick, aExtract, aBuiltin, aZeros, ↓reduceIte, Nat.reduceAdd, Nat.reduceSub, Nat.reduceMul, Nat.reduceEqDiff, reduceCtorEq, Int.reduceGT, Int.reduceLT, Int.reduceLE, Int.reduceGE, Int.reduceEq, Int.reduceToNat, Int.reduceAdd, Int.reduceSub, Int.reduceNeg, Int.reduceMul, Nat.reduceLeDiff, tys, ptr, hLf, hL]
  obtain ⟨v, g0, hc, ⟨x, rfl, hx, hx'⟩, hs1, ho1, hl1⟩ := pick_ok _ [⟨[], 9, true⟩] (L + 1) 0 7 hsrc (by omega) (by omega)
  obtain ⟨b0, rfl⟩ := ho1.two hLf hl1
  have hc' : AC Tryd.prog 11 [ptr (L + 1), .int .i64 7] (frz h ++ [⟨[nv, sv], 28, true⟩, ⟨[cv, .int .i64 0, .int .u64 0], 58, true⟩, ⟨[], 9, true⟩]) (.int .i64 x) (frz h ++ [⟨[nv, sv], 28, true⟩, b0, ⟨[], 9, true⟩]) := by simpa using hc
  refine acall.ac hc' ?_
  simp (maxSteps := 4000000) (disch := (first | omega | (simp only [List.length_append, List.length_cons, List.length_nil, List.length_map, List.length_set]; omega))) only [wk, wb, run_block, run_seq, cnd_dec, cnd_ndec, hset_c0, wBuiltin, wAppend, wCopy, wClear, dsOf, ev, aput, aPick, aExtract, aBuiltin, aZeros, ↓reduceIte, Nat.reduceAdd, Nat.reduceSub, Nat.reduceMul, Nat.reduceEqDiff, reduceCtorEq, Int.reduceGT, Int.reduceLT, Int.reduceLE, Int.reduceGE, Int.reduceEq, Int.reduceToNat, Int.reduceAdd, Int.reduceSub, Int.reduceNeg, Int.reduceMul, Nat.reduceLeDiff, tys, ptr]
  have hx6 : x ≤ 6 := by omega
  have hsid : sid nv ≠ L + 1 := by
    rcases Nat.eq_zero_or_pos names.length with h0 | h0
    · have := hnz h0; omega
    · have := hrow.lt h0; omega
  refine RL.wf (α := Nat × AObj × AHeap × List Bs × Value) (fun y => y.1) (fun y => flg 0 23 [(3, ptr L), (5, ptr (L + 1)), (6, y.2.2.2.2), (7, .int .i64 (y.1 : Int))]) (fun y => frz h ++ (⟨[nv, sv], 28, true⟩ :: y.2.1 :: y.2.2.1))
    (fun (y : Nat × AObj × AHeap × List Bs × Value) => y.1 ≤ x ∧ Src (frz h ++ [⟨[nv, sv], 28, true⟩, y.2.1]) (L + 1) (2 + 40 * (x - y.1)) ∧ Own (frz h ++ (⟨[nv, sv], 28, true⟩ :: y.2.1 :: y.2.2.1)) (L + 2) y.2.2.2.2 y.2.2.2.1.length 1 9 (y.2.2.2.1.map str) ∧ y.2.2.2.1.length = x - y.1 ∧ ∀ z ∈ y.2.2.2.1, tx z 150) ?_
    (x, b0, [⟨[], 9, true⟩], [], .slice (some ⟨L + 2, 0, none⟩) 0 0) ⟨by simp only; omega, hs1.mono (by simp only; omega), Own.empty _ _ (by omega) (by simp; omega), by simp, by simp⟩ _ _ (by simp only [flg_z, flg_n, flg_c, ↓reduceIte, Nat.reduceEqDiff, Nat.reduceAdd]; repeat (first | exact FLe.nil | apply FLe.junk | apply FLe.same)) (HLe.refl _)
  rintro ⟨k, b, t, lines, v⟩ ⟨k1, k2, k3, k4, k5⟩ ih
  simp only at k1 k2 k3 k4 k5 ih
  refine RL.round ?_
  simp (maxSteps := 4000000) (disch := (first | omega | (simp only [List.length_append, List.length_cons, List.length_nil, List.length_map, List.length_set]; omega))) only [wk, wb, run_block, run_seq, cnd_dec, cnd_ndec, hset_c0, wBuiltin, wAppend, wCopy, wClear, dsOf, ev, aput, aPick, aExtract, aBuiltin, aZeros, ↓reduceIte, Nat.reduceAdd, Nat.reduceSub, Nat.reduceMul, Nat.reduceEqDiff, reduceCtorEq, Int.reduceGT, Int.reduceLT, Int.reduceLE, Int.reduceGE, Int.reduceEq, Int.reduceToNat, Int.reduceAdd, Int.reduceSub, Int.reduceNeg, Int.reduceMul, Nat.reduceLeDiff, tys, ptr]
  refine ⟨fun hk => ?_, fun hk => ?_⟩
  · have hlen2 : (frz h ++ [⟨[nv, sv], 28, true⟩, b]).length = L + 2 := by simp [hL]
    obtain ⟨v1, g, u, hc, ⟨ln, rfl, hln⟩, hs2, ho2, hl2⟩ := line_ok (frz h ++ [⟨[nv, sv], 28, true⟩, b]) t (L + 1) _ L (L + 2) names nv sv hlen2 k2 (by omega)
      (fun g ho hg t' => by
        obtain ⟨b', rfl⟩ := ho.two hLf (by rw [hg, hlen2])
        rw [List.append_assoc, rd_at0 hLf]; rfl)
      (fun g ho hg => by
        obtain ⟨b', rfl⟩ := ho.two hLf (by rw [hg, hlen2])
        rw [List.append_assoc]; exact hrow.frz.app _) hsid hnl htx
    obtain ⟨b', rfl⟩ := ho2.two hLf hl2
    have hc' : AC Tryd.prog 12 [ptr (L + 1), ptr L] (frz h ++ (⟨[nv, sv], 28, true⟩ :: b :: t)) (str ln) (frz h ++ (⟨[nv, sv], 28, true⟩ :: b' :: (t ++ u))) := by simpa using hc
    refine acall.ac hc' ?_
    have hlen3 : (frz h ++ [⟨[nv, sv], 28, true⟩, b']).length = L + 2 := by simp [hL]
    have o1 : Own ((frz h ++ [⟨[nv, sv], 28, true⟩, b']) ++ (t ++ u)) (L + 2) v lines.length 1 9 (lines.map str) := by
      have e1 : (frz h ++ [⟨[nv, sv], 28, true⟩, b']) ++ (t ++ u) = ((frz h ++ [⟨[nv, sv], 28, true⟩, b']) ++ t) ++ u := by simp
      have e2 : frz h ++ (⟨[nv, sv], 28, true⟩ :: b :: t) = (frz h ++ [⟨[nv, sv], 28, true⟩, b]) ++ t := by simp
      rw [e1]; rw [e2] at k3
      refine Own.app (k3.keep (by simp) fun hn => ?_) u
      have := (k3.sid_lt hn).1
      rw [List.getElem?_append_right (by omega), List.getElem?_append_right (by omega), hlen2, hlen3]
    obtain ⟨v', t', p1, p2, p3⟩ := o1.push1 (P := Tryd.prog) hlen3 (ty := 24) (zs := [str ln]) se24 ti9 rfl rfl rfl (by simp; rfl) (by simp only; omega) (by omega)
    have p1' : aAppend Tryd.prog 24 24 v (.slice (some ⟨L + (t.length + u.length + 1 + 1), 0, none⟩) 1 1) (frz h ++ (⟨[nv, sv], 28, true⟩ :: b' :: (t ++ (u ++ [⟨[str ln], 9, true⟩])))) = some (v', frz h ++ (⟨[nv, sv], 28, true⟩ :: b' :: t')) := by
      have := p1
      simp only [List.append_assoc, List.cons_append, List.nil_append, List.length_append] at this
      rw [show L + 2 + (t.length + u.length) = L + (t.length + u.length + 1 + 1) by omega] at this; exact this
    simp (maxSteps := 4000000) (disch := (first | omega | (simp only [List.length_append, List.length_cons, List.length_nil, List.length_map, List.length_set]; omega))) only [wk, wb, run_block, run_seq, cnd_dec, cnd_ndec, hset_c0, wBuiltin, wAppend, wCopy, wClear, dsOf, ev, aput, aPick, aExtract, aBuiltin, aZeros, ↓reduceIte, Nat.reduceAdd, Nat.reduceSub, Nat.reduceMul, Nat.reduceEqDiff, reduceCtorEq, Int.reduceGT, Int.reduceLT, Int.reduceLE, Int.reduceGE, Int.reduceEq, Int.reduceToNat, Int.reduceAdd, Int.reduceSub, Int.reduceNeg, Int.reduceMul, Nat.reduceLeDiff, tys, ptr, hLf, p1']
    rw [show (k : Int) - 1 = ((k - 1 : Nat) : Int) by omega]
    refine ih (k - 1, b', t', lines ++ [ln], v') (by simp only; omega) ⟨by simp only; omega, hs2.mono (by simp only; omega), by simpa using p2, by simp; omega, fun z hz => ?_⟩ _ _ (by simp only [flg_z, flg_n, flg_c, ↓reduceIte, Nat.reduceEqDiff, Nat.reduceAdd]; repeat (first | exact FLe.nil | apply FLe.junk | apply FLe.same)) (HLe.refl _)
    rcases List.mem_append.1 hz with h | h
    · exact k5 z h
    · rw [List.mem_singleton] at h; rw [h]; exact hln
  · refine ⟨_, rfl, lines, ?_, by omega, k5⟩
    exact (k3.unfrz (by omega)).row
end Go.Proofs.YtmjalehlcbfljaaDoor

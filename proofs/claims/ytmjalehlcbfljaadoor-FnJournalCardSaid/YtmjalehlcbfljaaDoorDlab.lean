/- Drawing a lab. -/
import Derived.Test.YtmjalehlcbfljaaDoorSet
set_option linter.unusedSectionVars false
set_option linter.defProp false
set_option linter.unusedVariables false
set_option linter.unusedSimpArgs false
set_option linter.unnecessarySimpa false
namespace Go.Proofs.YtmjalehlcbfljaaDoor
open Go Go.AM
set_option maxRecDepth 8000
theorem LabAt.base {h h' t : AHeap} {L M q : Nat} {names : List (List UInt8)} {sc : List Value} (l : LabAt (h ++ t) M q names sc) (hg : h.length = L) (hl : h'.length = L) (hM : L ≤ M) : LabAt (h' ++ t) M q names sc := by
  have key : ∀ k, M ≤ k → (h' ++ t)[k]? = (h ++ t)[k]? := fun k hk => by
    rw [List.getElem?_append_right (by omega), List.getElem?_append_right (by omega), hg, hl]
  obtain ⟨nv, sv, h1, h2, h3, h4, h5⟩ := l
  exact ⟨nv, sv, by rw [key q h5]; exact h1, h2.keep (by simp; omega) (fun hn => key _ (h2.sid_lt hn).1), h3.keep (by simp; omega) (fun hn => key _ (h3.sid_lt hn).1), h4, h5⟩
theorem StrOK.cells {v : Value} (hv : StrOK v) : ∃ a b c d e f g, v = .agg #[a, b, c, d, e, f, g] ∧ (isCell a = true ∧ isCell b = true ∧ isCell c = true ∧ isCell d = true ∧ isCell e = true ∧ isCell f = true ∧ isCell g = true) := by
  rcases hv with ⟨w, t, s, rfl, _⟩ | ⟨m, f, a, s, rfl, _⟩
  · exact ⟨_, _, _, _, _, _, _, rfl, rfl, rfl, rfl, rfl, rfl, rfl, rfl⟩
  · exact ⟨_, _, _, _, _, _, _, rfl, rfl, rfl, rfl, rfl, rfl, rfl, rfl⟩
def labNames : List (List UInt8) := [[97], [98], [99, 111, 105, 110], [100, 101, 99, 107], [120]]
theorem drawLab_ok (h : AHeap) (p n : Nat) (hs : Src h p n) (hn : n < 4611686018427360000) : ∃ v h' t, AC Tryd.prog 13 [ptr p] h v (h' ++ t) ∧
    (∃ (nv sv : Value) (names : List (List UInt8)) (sc : List Value), v = .agg #[nv, sv] ∧ Own (h' ++ t) h.length nv names.length 1 9 (names.map str) ∧ Own (h' ++ t) h.length sv names.length 7 67 sc ∧ names.length ≤ 3 ∧ ∀ x ∈ names, x ∈ labNames) ∧
    Src h' p (n + 60) ∧ Only p h h' ∧ h'.length = h.length := by
  suffices hh : ∃ v h'', AC Tryd.prog 13 [ptr p] h v h'' ∧ ∃ h' t, h'' = h' ++ t ∧
      (∃ (nv sv : Value) (names : List (List UInt8)) (sc : List Value), v = .agg #[nv, sv] ∧ Own (h' ++ t) h.length nv names.length 1 9 (names.map str) ∧ Own (h' ++ t) h.length sv names.length 7 67 sc ∧ names.length ≤ 3 ∧ ∀ x ∈ names, x ∈ labNames) ∧
      Src h' p (n + 60) ∧ Only p h h' ∧ h'.length = h.length by
    obtain ⟨v, h'', k1, h', t, rfl, k2⟩ := hh
    exact ⟨v, h', t, k1, k2⟩
  obtain ⟨L, hL⟩ : ∃ L, h.length = L := ⟨_, rfl⟩
  have hp := hs.lt
  refine AC.walk Tryd.func13 rfl (by decide) (by kernel_rfl) mixed ?_
  simp (maxSteps := 4000000) (disch := (first | omega | (simp only [List.length_append, List.length_cons, List.length_nil, List.length_map, List.length_set]; omega))) only [wk, wb, run_block, run_seq, cnd_dec, cnd_ndec, hset_c0, wBuiltin, wAppend, wCopy, wClear, dsOf, ev, aput, aPick, aExtract, aBuiltin, aZeros, ↓reduceIte, Nat.reduceAdd, Nat.reduceSub, Nat.reduceMul, Nat.reduceEqDiff, reduceCtorEq, Int.reduceGT, Int.reduceLT, Int.reduceLE, Int.reduceGE, Int.reduceEq, Int.reduceToNat, Int.reduceAdd, Int.reduceSub, Int.reduceNeg, Int.reduceMul, Nat.reduceLeDiff, tys, Tryd.f13, ptr, hL]
  obtain ⟨v, h1, hc, ⟨x, rfl, hx, hx'⟩, hs1, ho1, hl1⟩ := pick_ok h [⟨[.slice none 0 0, .slice none 0 0], 28, true⟩, ⟨[.slice none 0 0, .slice none 0 0], 28, true⟩] p n 4 hs (by omega) (by omega)
  refine acall.ac hc ?_
  have hL1 : h1.length = L := by omega
  have hx3 : x ≤ 3 := by omega
  simp (maxSteps := 4000000) (disch := (first | omega | (simp only [List.length_append, List.length_cons, List.length_nil, List.length_map, List.length_set]; omega))) only [wk, wb, run_block, run_seq, cnd_dec, cnd_ndec, hset_c0, wBuiltin, wAppend, wCopy, wClear, dsOf, ev, aput, aPick, aExtract, aBuiltin, aZeros, ↓reduceIte, Nat.reduceAdd, Nat.reduceSub, Nat.reduceMul, Nat.reduceEqDiff, reduceCtorEq, Int.reduceGT, Int.reduceLT, Int.reduceLE, Int.reduceGE, Int.reduceEq, Int.reduceToNat, Int.reduceAdd, Int.reduceSub, Int.reduceNeg, Int.reduceMul, Nat.reduceLeDiff, tys, hL1]
  refine RL.wf (α := Nat × AHeap × AHeap × List (List UInt8) × List Value) (fun x => x.1) (fun x => flg 0 21 [(0, ptr p), (2, ptr L), (3, ptr (L + 1)), (4, .int .i64 (x.1 : Int))]) (fun x => x.2.1 ++ (⟨[.slice none 0 0, .slice none 0 0], 28, true⟩ :: x.2.2.1))
    (fun (y : Nat × AHeap × AHeap × List (List UInt8) × List Value) => y.1 ≤ x ∧ y.2.1.length = L ∧ Src y.2.1 p (n + 2 + 18 * (x - y.1)) ∧ Only p h y.2.1 ∧ LabAt (y.2.1 ++ (⟨[.slice none 0 0, .slice none 0 0], 28, true⟩ :: y.2.2.1)) (L + 1) (L + 1) y.2.2.2.1 y.2.2.2.2 ∧ y.2.2.2.1.length ≤ x - y.1 ∧ ∀ z ∈ y.2.2.2.1, z ∈ labNames) ?_
    (x, h1, [⟨[.slice none 0 0, .slice none 0 0], 28, true⟩], [], []) ⟨by simp only; omega, hL1, hs1.mono (by omega), ho1, ⟨.slice none 0 0, .slice none 0 0, by rw [List.getElem?_append_right (by simp only; omega)]; simp [hL1], Own.nil _ _ _ _, Own.nil _ _ _ _, by simp, by omega⟩, by simp, by simp⟩ _ _ (by simp only [flg_z, flg_n, flg_c, ↓reduceIte, Nat.reduceEqDiff, Nat.reduceAdd]; repeat (first | exact FLe.nil | apply FLe.junk | apply FLe.same)) (HLe.refl _)
  rintro ⟨k, g, t, names, sc⟩ ⟨k1, k2, k3, k4, k5, k6, k7⟩ ih
  simp only at k1 k2 k3 k4 k5 k6 k7 ih
  refine RL.round ?_
  simp (maxSteps := 4000000) (disch := (first | omega | (simp only [List.length_append, List.length_cons, List.length_nil, List.length_map, List.length_set]; omega))) only [wk, wb, run_block, run_seq, cnd_dec, cnd_ndec, hset_c0, wBuiltin, wAppend, wCopy, wClear, dsOf, ev, aput, aPick, aExtract, aBuiltin, aZeros, ↓reduceIte, Nat.reduceAdd, Nat.reduceSub, Nat.reduceMul, Nat.reduceEqDiff, reduceCtorEq, Int.reduceGT, Int.reduceLT, Int.reduceLE, Int.reduceGE, Int.reduceEq, Int.reduceToNat, Int.reduceAdd, Int.reduceSub, Int.reduceNeg, Int.reduceMul, Nat.reduceLeDiff, tys, ptr, k2]
  refine ⟨fun hk => ?_, fun hk => ?_⟩
  · obtain ⟨v, g1, hc, ⟨nm, hnm, rfl⟩, hs2, ho2, hl2⟩ := text_ok g (⟨[.slice none 0 0, .slice none 0 0], 28, true⟩ :: (t ++ [⟨labNames.map str, 9, true⟩])) p (n + 2 + 18 * (x - k)) (.slice (some ⟨L + (t.length + 1), 0, none⟩) 5 5) labNames (Row.new (by simp (maxSteps := 4000000) (disch := (first | omega | (simp only [List.length_append, List.length_cons, List.length_nil, List.length_map, List.length_set]; omega))) only [wk, wb, run_block, run_seq, cnd_dec, cnd_ndec, hset_c0, wBuiltin, wAppend, wCopy, wClear, dsOf, ev, aput, aPick, aExtract, aBuiltin, aZeros, ↓reduceIte, Nat.reduceAdd, Nat.reduceSub, Nat.reduceMul, Nat.reduceEqDiff, reduceCtorEq, Int.reduceGT, Int.reduceLT, Int.reduceLE, Int.reduceGE, Int.reduceEq, Int.reduceToNat, Int.reduceAdd, Int.reduceSub, Int.reduceNeg, Int.reduceMul, Nat.reduceLeDiff, tys, k2]) rfl) (by simp only [sid]; omega) (by decide) k3 (by omega)
    refine acall.ac hc ?_
    have hL2 : g1.length = L := by omega
    simp (maxSteps := 4000000) (disch := (first | omega | (simp only [List.length_append, List.length_cons, List.length_nil, List.length_map, List.length_set]; omega))) only [wk, wb, run_block, run_seq, cnd_dec, cnd_ndec, hset_c0, wBuiltin, wAppend, wCopy, wClear, dsOf, ev, aput, aPick, aExtract, aBuiltin, aZeros, ↓reduceIte, Nat.reduceAdd, Nat.reduceSub, Nat.reduceMul, Nat.reduceEqDiff, reduceCtorEq, Int.reduceGT, Int.reduceLT, Int.reduceLE, Int.reduceGE, Int.reduceEq, Int.reduceToNat, Int.reduceAdd, Int.reduceSub, Int.reduceNeg, Int.reduceMul, Nat.reduceLeDiff, tys, ptr, hL2]
    obtain ⟨v, g2, u, hc, hst, hs3, ho3, hl3⟩ := drawStr_ok g1 (⟨[.slice none 0 0, .slice none 0 0], 28, true⟩ :: (t ++ [⟨labNames.map str, 9, true⟩])) p (n + 2 + 18 * (x - k) + 2) hs2 (by omega)
    refine acall.ac hc ?_
    have hL3 : g2.length = L := by omega
    simp (maxSteps := 4000000) (disch := (first | omega | (simp only [List.length_append, List.length_cons, List.length_nil, List.length_map, List.length_set]; omega))) only [wk, wb, run_block, run_seq, cnd_dec, cnd_ndec, hset_c0, wBuiltin, wAppend, wCopy, wClear, dsOf, ev, aput, aPick, aExtract, aBuiltin, aZeros, ↓reduceIte, Nat.reduceAdd, Nat.reduceSub, Nat.reduceMul, Nat.reduceEqDiff, reduceCtorEq, Int.reduceGT, Int.reduceLT, Int.reduceLE, Int.reduceGE, Int.reduceEq, Int.reduceToNat, Int.reduceAdd, Int.reduceSub, Int.reduceNeg, Int.reduceMul, Nat.reduceLeDiff, tys, ptr, hL3]
    obtain ⟨a, b, c, d, e, f, g', rfl, hx7⟩ := hst.cells
    have hlab : LabAt (g2 ++ (⟨[.slice none 0 0, .slice none 0 0], 28, true⟩ :: (t ++ ⟨labNames.map str, 9, true⟩ :: u))) (L + 1) (L + 1) names sc := by
      have := (k5.base k2 hL3 (by omega)).app (⟨labNames.map str, 9, true⟩ :: u)
      simpa using this
    have hnm4 : nm.length ≤ 4 := by
      have : ∀ x ∈ labNames, x.length ≤ 4 := by decide
      exact this nm hnm
    obtain ⟨v, h'', hc, bo, names', sc', rfl, hl', ha, hn', hmem⟩ := set_ok _ (L + 1) (L + 1) names sc nm a b c d e f g' hx7 hlab (by omega) (by omega) (by simp; omega)
    rw [show g2 ++ (⟨[.slice none 0 0, .slice none 0 0], 28, true⟩ :: (t ++ ⟨labNames.map str, 9, true⟩ :: u)) = (g2 ++ [⟨[.slice none 0 0, .slice none 0 0], 28, true⟩]) ++ (t ++ ⟨labNames.map str, 9, true⟩ :: u) by simp] at ha
    obtain ⟨t', rfl, _⟩ := ha.split (by simp [hL3])
    refine acall.ac hc ?_
    simp (maxSteps := 4000000) (disch := (first | omega | (simp only [List.length_append, List.length_cons, List.length_nil, List.length_map, List.length_set]; omega))) only [wk, wb, run_block, run_seq, cnd_dec, cnd_ndec, hset_c0, wBuiltin, wAppend, wCopy, wClear, dsOf, ev, aput, aPick, aExtract, aBuiltin, aZeros, ↓reduceIte, Nat.reduceAdd, Nat.reduceSub, Nat.reduceMul, Nat.reduceEqDiff, reduceCtorEq, Int.reduceGT, Int.reduceLT, Int.reduceLE, Int.reduceGE, Int.reduceEq, Int.reduceToNat, Int.reduceAdd, Int.reduceSub, Int.reduceNeg, Int.reduceMul, Nat.reduceLeDiff, tys, ptr, hL3]
    rw [show (k : Int) - 1 = ((k - 1 : Nat) : Int) by omega]
    refine ih (k - 1, g2, t', names', sc') (by simp only; omega) ⟨by simp only; omega, hL3, hs3.mono (by simp only; omega), (k4.trans ho2).trans ho3, by simpa using hl', by simp only; omega, fun z hz => ?_⟩ _ _ (by simp only [flg_z, flg_n, flg_c, ↓reduceIte, Nat.reduceEqDiff, Nat.reduceAdd]; repeat (first | exact FLe.nil | apply FLe.junk | apply FLe.same)) (HLe.of_eq (by simp))
    rcases hmem z hz with h | rfl
    · exact k7 z h
    · exact hnm
  · obtain ⟨nv, sv, l1, l2, l3, l4, l5⟩ := k5
    rw [List.getElem?_append_right (by omega), k2, show L + 1 - L = 0 + 1 by omega, List.getElem?_cons_succ] at l1
    have hr0 := rd_of l1
    have c1 := l2.isCell; have c2 := l3.isCell
    simp (maxSteps := 4000000) (disch := (first | omega | (simp only [List.length_append, List.length_cons, List.length_nil, List.length_map, List.length_set]; omega))) only [wk, wb, run_block, run_seq, cnd_dec, cnd_ndec, hset_c0, wBuiltin, wAppend, wCopy, wClear, dsOf, ev, aput, aPick, aExtract, aBuiltin, aZeros, ↓reduceIte, Nat.reduceAdd, Nat.reduceSub, Nat.reduceMul, Nat.reduceEqDiff, reduceCtorEq, Int.reduceGT, Int.reduceLT, Int.reduceLE, Int.reduceGE, Int.reduceEq, Int.reduceToNat, Int.reduceAdd, Int.reduceSub, Int.reduceNeg, Int.reduceMul, Nat.reduceLeDiff, tys, ptr, k2, hr0, c1, c2]
    exact ⟨g, ⟨[nv, sv], 28, true⟩ :: t, rfl, ⟨nv, sv, names, sc, rfl, l2.head k2, l3.head k2, by omega, k7⟩, k3.mono (by omega), k4, k2⟩

theorem from_ok (h : AHeap) (cv : Value) (hc : isCell cv = true) (hcc : closed (.int .i64 0) = true) : ∃ v t, ACp Tryd.prog 10 [cv] h v t ∧ v = ptr h.length ∧ t = [⟨[cv, .int .i64 0, .int .u64 0], 58, true⟩] := by
  obtain ⟨hv1, hv2⟩ := isVal_of hc
  refine ACp.walk Tryd.func10 rfl (by decide) (by kernel_rfl) mixed ?_
  simp (maxSteps := 4000000) (disch := (first | omega | (simp only [List.length_append, List.length_cons, List.length_nil, List.length_map, List.length_set]; omega))) only [wk, wb, run_block, run_seq, cnd_dec, cnd_ndec, hset_c0, wBuiltin, wAppend, wCopy, wClear, dsOf, ev, aput, aPick, aExtract, aBuiltin, aZeros, ↓reduceIte, Nat.reduceAdd, Nat.reduceSub, Nat.reduceMul, Nat.reduceEqDiff, reduceCtorEq, Int.reduceGT, Int.reduceLT, Int.reduceLE, Int.reduceGE, Int.reduceEq, Int.reduceToNat, Int.reduceAdd, Int.reduceSub, Int.reduceNeg, Int.reduceMul, Nat.reduceLeDiff, tys, Tryd.f10, hc, hv1, hv2]
  exact ⟨_, rfl, rfl, rfl⟩
theorem Src.new (g : AHeap) (a : AHeap) (cv : Value) (l : List UInt8) (hr : Row g cv l.length 1 (l.map fun b => .int .u8 b.toNat)) (hl : l.length < 4611686018427387904) (hs : 0 < l.length → sid cv < g.length) : Src (g ++ (a ++ [⟨[cv, .int .i64 0, .int .u64 0], 58, true⟩])) (g.length + a.length) 0 := by
  refine ⟨cv, 0, 0, l, ?_, by omega, by omega, hr.app _, fun hn => ?_, hl⟩
  · rw [List.getElem?_append_right (by omega)]; simp
  · have := hs hn; omega
theorem b10lab_ok (h : AHeap) (cv : Value) (l : List UInt8) (hr : Row h cv l.length 1 (l.map fun b => .int .u8 b.toNat)) (hl : l.length < 4611686018427387904) : ∃ v t, ACp Tryd.prog 6 [cv] h v t ∧
    ∃ (nv sv : Value) (names : List (List UInt8)) (sc : List Value), v = .agg #[nv, sv] ∧ Own (h ++ t) h.length nv names.length 1 9 (names.map str) ∧ Own (h ++ t) h.length sv names.length 7 67 sc ∧ names.length ≤ 3 ∧ ∀ x ∈ names, x ∈ labNames := by
  obtain ⟨L, hL⟩ : ∃ L, h.length = L := ⟨_, rfl⟩
  have hLf : (frz h).length = L := by simpa using hL
  refine ACp.walk Tryd.func6 rfl (by decide) (by kernel_rfl) mixed ?_
  simp (maxSteps := 4000000) (disch := (first | omega | (simp only [List.length_append, List.length_cons, List.length_nil, List.length_map, List.length_set]; omega))) only [wk, wb, run_block, run_seq, cnd_dec, cnd_ndec, hset_c0, wBuiltin, wAppend, wCopy, wClear, dsOf, ev, aput, aPick, aExtract, aBuiltin, aZeros, ↓reduceIte, Nat.reduceAdd, Nat.reduceSub, Nat.reduceMul, Nat.reduceEqDiff, reduceCtorEq, Int.reduceGT, Int.reduceLT, Int.reduceLE, Int.reduceGE, Int.reduceEq, Int.reduceToNat, Int.reduceAdd, Int.reduceSub, Int.reduceNeg, Int.reduceMul, Nat.reduceLeDiff, tys, Tryd.f6, hL]
  obtain ⟨v, t, hc, rfl, rfl⟩ := from_ok (frz h ++ [⟨[.slice none 0 0, .slice none 0 0], 28, true⟩]) cv hr.isCell rfl
  refine acall.p hc ?_
  have hsrc := Src.new (frz h) [⟨[.slice none 0 0, .slice none 0 0], 28, true⟩] cv l hr.frz hl (fun hn => hr.frz.lt hn)
  simp (maxSteps := 4000000) (disch := (first | omega | (simp only [List.length_append, List.length_cons, List.length_nil, List.length_map, List.length_set]; omega))) only [wk, wb, run_block, run_seq, cnd_dec, cnd_ndec, hset_c0, wBuiltin, wAppend, wCopy, wClear, dsOf, ev, aput, aPick, aExtract, aBuiltin, aZeros, ↓reduceIte, Nat.reduceAdd, Nat.reduceSub, Nat.reduceMul, Nat.reduceEqDiff, reduceCtorEq, Int.reduceGT, Int.reduceLT, Int.reduceLE, Int.reduceGE, Int.reduceEq, Int.reduceToNat, Int.reduceAdd, Int.reduceSub, Int.reduceNeg, Int.reduceMul, Nat.reduceLeDiff, tys, ptr, hLf, hL]
  simp only [hLf, List.length_cons, List.length_nil, List.cons_append, List.nil_append, Nat.zero_add] at hsrc
  obtain ⟨v, h', t, hc, ⟨nv, sv, names, sc, rfl, o1, o2, hn, hm⟩, hs', ho', hl'⟩ := drawLab_ok _ (L + 1) 0 hsrc (by omega)
  obtain ⟨b', rfl⟩ := ho'.two hLf hl'
  refine acall.ac hc ?_
  have c1 := o1.isCell; have c2 := o2.isCell
  simp (maxSteps := 4000000) (disch := (first | omega | (simp only [List.length_append, List.length_cons, List.length_nil, List.length_map, List.length_set]; omega))) only [wk, wb, run_block, run_seq, cnd_dec, cnd_ndec, hset_c0, wBuiltin, wAppend, wCopy, wClear, dsOf, ev, aput, aPick, aExtract, aBuiltin, aZeros, ↓reduceIte, Nat.reduceAdd, Nat.reduceSub, Nat.reduceMul, Nat.reduceEqDiff, reduceCtorEq, Int.reduceGT, Int.reduceLT, Int.reduceLE, Int.reduceGE, Int.reduceEq, Int.reduceToNat, Int.reduceAdd, Int.reduceSub, Int.reduceNeg, Int.reduceMul, Nat.reduceLeDiff, tys, ptr, hLf, c1, c2]
  refine ⟨⟨[nv, sv], 28, true⟩ :: b' :: t, rfl, nv, sv, names, sc, rfl, ?_, ?_, hn, hm⟩
  · simp only [List.length_append, hLf, List.length_cons, List.length_nil] at o1
    have o1' : Own (frz h ++ (⟨[.slice none 0 0, .slice none 0 0], 28, true⟩ :: (b' :: t))) (L + 1) nv names.length 1 9 (names.map str) := by simpa using o1.mono (L' := L + 1) (by omega)
    exact (o1'.head hLf).unfrz (by omega)
  · simp only [List.length_append, hLf, List.length_cons, List.length_nil] at o2
    have o2' : Own (frz h ++ (⟨[.slice none 0 0, .slice none 0 0], 28, true⟩ :: (b' :: t))) (L + 1) sv names.length 7 67 sc := by simpa using o2.mono (L' := L + 1) (by omega)
    exact (o2'.head hLf).unfrz (by omega)
end Go.Proofs.YtmjalehlcbfljaaDoor

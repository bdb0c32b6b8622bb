/- Reading a written stream. -/
import Derived.Test.YtmjalehlcbfljaaDoorJof
set_option linter.unusedSectionVars false
set_option linter.defProp false
set_option linter.unusedVariables false
set_option linter.unusedSimpArgs false
set_option linter.unnecessarySimpa false
namespace Go.Proofs.YtmjalehlcbfljaaDoor
open Go Go.AM
set_option maxRecDepth 8000
set_option maxHeartbeats 4000000
theorem set_mid (g t : AHeap) (a b : AObj) : (g ++ a :: t).set g.length b = g ++ b :: t := by
  rw [List.set_append_right _ _ (Nat.le_refl _)]; simp
theorem wstr_ok (g t : AHeap) (a bv : Value) (l x : Bs) (hx : x ≠ []) (ha : a = .pointer none ∨ a = ptr g.length) (ob : Own (g ++ ⟨[a, bv], tB, true⟩ :: t) (g.length + 1) bv l.length 1 5 (l.map byteV)) (hlen : l.length + x.length ≤ 1000000) :
    ∃ bv' t', AC Tryd.prog 15 [ptr g.length, str x] (g ++ ⟨[a, bv], tB, true⟩ :: t) (.tuple #[.int .i64 x.length, .nilIface]) (g ++ ⟨[ptr g.length, bv'], tB, true⟩ :: t') ∧
      Own (g ++ ⟨[ptr g.length, bv'], tB, true⟩ :: t') (g.length + 1) bv' (l ++ x).length 1 5 ((l ++ x).map byteV) := by
  suffices hh : ∃ v h', AC Tryd.prog 15 [ptr g.length, str x] (g ++ ⟨[a, bv], tB, true⟩ :: t) v h' ∧ v = .tuple #[.int .i64 x.length, .nilIface] ∧ ∃ bv' t', h' = g ++ ⟨[ptr g.length, bv'], tB, true⟩ :: t' ∧ 
      Own (g ++ ⟨[ptr g.length, bv'], tB, true⟩ :: t') (g.length + 1) bv' (l ++ x).length 1 5 ((l ++ x).map byteV) by
    obtain ⟨v, h', k1, rfl, bv', t', rfl, k2⟩ := hh
    exact ⟨bv', t', k1, k2⟩
  have hgl : g.length = g.length := rfl
  have hx0 : 0 < x.length := List.length_pos_iff.2 hx
  refine AC.walk Tryd.func15 rfl (by decide) (by kernel_rfl) mixed ?_
  simp (maxSteps := 4000000) (disch := (first | omega | (simp only [List.length_append, List.length_cons, List.length_nil, List.length_map, List.length_set]; omega))) only [wk, wb, run_block, run_seq, cnd_dec, cnd_ndec, hset_c0, wBuiltin, wAppend, wCopy, wClear, dsOf, ev, aput, aPick, aExtract, aBuiltin, aZeros, ↓reduceIte, Nat.reduceAdd, Nat.reduceSub, Nat.reduceMul, Nat.reduceEqDiff, reduceCtorEq, Int.reduceGT, Int.reduceLT, Int.reduceLE, Int.reduceGE, Int.reduceEq, Int.reduceToNat, Int.reduceAdd, Int.reduceSub, Int.reduceNeg, Int.reduceMul, Nat.reduceLeDiff, tys, Tryd.f15, ptr]
  have hc := cc_ok (g ++ ⟨[a, bv], tB, true⟩ :: t) g.length a bv (by simp) ha
  rw [set_mid] at hc
  refine acall.ac hc ?_
  have e1 : ∀ (b : AObj) (u : AHeap), g ++ b :: u = (g ++ [b]) ++ u := fun b u => by simp
  have o1 : Own ((g ++ [⟨[ptr g.length, bv], tB, true⟩]) ++ t) (g.length + 1) bv l.length 1 5 (l.map byteV) := by
    rw [← e1]; exact ob.head1 rfl
  obtain ⟨v', t', k1, k2, k3⟩ := o1.addStr (P := Tryd.prog) (by simp) (ty := 22) (ty' := 9) se22 (by decide) st9 ti5 rfl rfl hx0 (by simp only; omega) (by omega)
  rw [← e1, ← e1] at k1
  simp only [ptr] at k1
  rw [← e1] at k2
  obtain ⟨id, f1, f2, _⟩ := k2.slice (by omega)
  have hv1 : isVal v' = true := by rw [f1]; rfl
  have hv2 : v'.cells = #[v'] := by rw [f1]; rfl
  simp (maxSteps := 4000000) (disch := (first | omega | (simp only [List.length_append, List.length_cons, List.length_nil, List.length_map, List.length_set]; omega))) only [wk, wb, run_block, run_seq, cnd_dec, cnd_ndec, hset_c0, wBuiltin, wAppend, wCopy, wClear, dsOf, ev, aput, aPick, aExtract, aBuiltin, aZeros, ↓reduceIte, Nat.reduceAdd, Nat.reduceSub, Nat.reduceMul, Nat.reduceEqDiff, reduceCtorEq, Int.reduceGT, Int.reduceLT, Int.reduceLE, Int.reduceGE, Int.reduceEq, Int.reduceToNat, Int.reduceAdd, Int.reduceSub, Int.reduceNeg, Int.reduceMul, Nat.reduceLeDiff, tys, ptr, k1, hv1, hv2]
  refine ⟨v', t', rfl, ?_⟩
  have e2 : ∀ (b : AObj) , b = ⟨[ptr g.length, v'], tB, true⟩ → Own (g ++ b :: t') (g.length + 1) v' (l.length + x.length) 1 5 ((l ++ x).map byteV) := by
    rintro b rfl
    have := k2.head1 (b := ⟨[ptr g.length, v'], tB, true⟩) rfl
    rw [List.map_append]; exact this
  exact e2 _ rfl
theorem blen_ok (g t : AHeap) (a bv : Value) (n : Nat) (cs : List Value) (ob : Row (g ++ ⟨[a, bv], tB, true⟩ :: t) bv n 1 cs) :
    ∃ v u, ACp Tryd.prog 18 [ptr g.length] (g ++ ⟨[a, bv], tB, true⟩ :: t) v u ∧ v = .int .i64 n ∧ u = [] := by
  have hgl : g.length = g.length := rfl
  refine ACp.walk Tryd.func18 rfl (by decide) (by kernel_rfl) mixed ?_
  simp (maxSteps := 4000000) (disch := (first | omega | (simp only [List.length_append, List.length_cons, List.length_nil, List.length_map, List.length_set]; omega))) only [wk, wb, run_block, run_seq, cnd_dec, cnd_ndec, hset_c0, wBuiltin, wAppend, wCopy, wClear, dsOf, ev, aput, aPick, aExtract, aBuiltin, aZeros, ↓reduceIte, Nat.reduceAdd, Nat.reduceSub, Nat.reduceMul, Nat.reduceEqDiff, reduceCtorEq, Int.reduceGT, Int.reduceLT, Int.reduceLE, Int.reduceGE, Int.reduceEq, Int.reduceToNat, Int.reduceAdd, Int.reduceSub, Int.reduceNeg, Int.reduceMul, Nat.reduceLeDiff, tys, Tryd.f18, ptr, ob.alen]
  exact ⟨[], by simp, by first | exact ⟨rfl, rfl⟩ | exact rfl | simp⟩
end Go.Proofs.YtmjalehlcbfljaaDoor

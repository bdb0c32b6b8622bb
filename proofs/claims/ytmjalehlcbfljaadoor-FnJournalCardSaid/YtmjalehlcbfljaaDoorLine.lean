/- The line of a stream is text without a line end. -/
import Derived.Test.YtmjalehlcbfljaaDoorDlab
import Derived.Test.YtmjalehlcbfljaaDoorTxt
import Derived.Test.YtmjalehlcbfljaaDoorJLaw
set_option linter.unusedSectionVars false
set_option linter.defProp false
set_option linter.unusedVariables false
set_option linter.unusedSimpArgs false
set_option linter.unnecessarySimpa false
namespace Go.Proofs.YtmjalehlcbfljaaDoor
open Go Go.AM
set_option maxRecDepth 8000
set_option maxHeartbeats 4000000
def tx (l : Bs) (k : Nat) : Prop := l.length ≤ k ∧ nlFree l
instance (l : Bs) (k : Nat) : Decidable (tx l k) := inferInstanceAs (Decidable (_ ∧ ¬ _))
theorem tx.append {a b : Bs} {i j : Nat} (ha : tx a i) (hb : tx b j) : tx (a ++ b) (i + j) := ⟨by have := ha.1; have := hb.1; simp; omega, by
  intro h
  rcases List.mem_append.1 h with h | h
  · exact ha.2 h
  · exact hb.2 h⟩
theorem tx.mono {a : Bs} {i j : Nat} (ha : tx a i) (h : i ≤ j) : tx a j := ⟨by have := ha.1; omega, ha.2⟩
theorem tx_dec (n : Int) (hn : inI n) : tx (decB n) 20 := ⟨decB_len n hn, decB_no n 10 rfl⟩
theorem tx_join (l : Bs) (k : Nat) (hl : tx l k) (a : List Int) (ha : ∀ n ∈ a, inI n) : tx (joinB l a) (k + 21 * a.length) := by
  induction a generalizing l k with
  | nil => simpa [joinB] using hl
  | cons n r ih =>
    have h1 : tx (58 :: decB n) 21 := by have := tx_dec n (ha n (by simp)); exact (show tx [58] 1 by decide).append this |>.mono (by omega)
    exact (ih _ _ (hl.append h1) fun x hx => ha x (by simp [hx])).mono (by simp; omega)
theorem tx_str (k w t m f a s : Int) (hi : inI w ∧ inI t ∧ inI m ∧ inI f ∧ inI a ∧ inI s) : tx (strB k w t m f a s) 90 := by
  obtain ⟨h1, h2, h3, h4, h5, h6⟩ := hi
  unfold strB
  split
  · exact (tx_join _ 1 (by decide) _ (by intro n hn; simp at hn; rcases hn with rfl | rfl | rfl <;> assumption)).mono (by simp)
  · exact (tx_join _ 1 (by decide) _ (by intro n hn; simp at hn; rcases hn with rfl | rfl | rfl | rfl <;> assumption)).mono (by simp)
theorem StrOK.nums {v : Value} (hv : StrOK v) : ∃ k w t m f a s : Int, v = .agg #[.int .i64 k, .int .i64 w, .int .i64 t, .int .i64 m, .int .i64 f, .int .i64 a, .int .i64 s] ∧ (inI w ∧ inI t ∧ inI m ∧ inI f ∧ inI a ∧ inI s) := by
  unfold inI
  rcases hv with ⟨w, t, s, rfl, h1, h2, h3⟩ | ⟨m, f, a, s, rfl, h1, h2, h3, h4, h5⟩
  · have := Nat.pow_le_pow_right (n := 2) (by omega) h1
    exact ⟨0, w, t, 0, 0, 0, s, rfl, by omega, by omega, by omega, by omega, by omega, by omega⟩
  · exact ⟨1, 0, 0, m, f, a, s, rfl, by omega, by omega, by omega, by omega, by omega, by omega⟩

theorem line_ok (h t0 : AHeap) (p n q L : Nat) (names : List Bs) (nv sv : Value) (hL : h.length = L) (hs : Src h p n) (hn : n < 4611686018427360000) (hj : ∀ g, Only p h g → g.length = L → ∀ t, rd (g ++ (t0 ++ t)) q = some [nv, sv]) (hrow : ∀ g, Only p h g → g.length = L → Row (g ++ t0) nv names.length 1 (names.map str)) (hsid : sid nv ≠ p)
    (hnl : names.length < 1000) (htx : ∀ x ∈ names, tx x 10) :
    ∃ v h' t, AC Tryd.prog 12 [ptr p, ptr q] (h ++ t0) v (h' ++ (t0 ++ t)) ∧ (∃ l, v = str l ∧ tx l 150) ∧ Src h' p (n + 40) ∧ Only p h h' ∧ h'.length = h.length := by
  suffices hh : ∃ v h'', AC Tryd.prog 12 [ptr p, ptr q] (h ++ t0) v h'' ∧ (∃ l, v = str l ∧ tx l 150) ∧ ∃ h' t, h'' = h' ++ (t0 ++ t) ∧ Src h' p (n + 40) ∧ Only p h h' ∧ h'.length = h.length by
    obtain ⟨v, h'', k1, k2, h', t, rfl, k3⟩ := hh
    exact ⟨v, h', t, k1, k2, k3⟩
  have hp := hs.lt
  refine AC.walk Tryd.func12 rfl (by decide) (by kernel_rfl) mixed ?_
  simp (maxSteps := 4000000) (disch := (first | omega | (simp only [List.length_append, List.length_cons, List.length_nil, List.length_map, List.length_set]; omega))) only [wk, wb, run_block, run_seq, cnd_dec, cnd_ndec, hset_c0, wBuiltin, wAppend, wCopy, wClear, dsOf, ev, aput, aPick, aExtract, aBuiltin, aZeros, ↓reduceIte, Nat.reduceAdd, Nat.reduceSub, Nat.reduceMul, Nat.reduceEqDiff, reduceCtorEq, Int.reduceGT, Int.reduceLT, Int.reduceLE, Int.reduceGE, Int.reduceEq, Int.reduceToNat, Int.reduceAdd, Int.reduceSub, Int.reduceNeg, Int.reduceMul, Nat.reduceLeDiff, tys, Tryd.f12, ptr, hL]
  obtain ⟨v, h1, hc, ⟨x, hx, rfl⟩, hs1, ho1, hl1⟩ := text_ok h (t0 ++ [⟨[[97], [98], [110, 105, 120], []].map str, 9, true⟩]) p n (.slice (some ⟨L + t0.length, 0, none⟩) 4 4) [[97], [98], [110, 105, 120], []] (Row.new (by simp (maxSteps := 4000000) (disch := (first | omega | (simp only [List.length_append, List.length_cons, List.length_nil, List.length_map, List.length_set]; omega))) only [wk, wb, run_block, run_seq, cnd_dec, cnd_ndec, hset_c0, wBuiltin, wAppend, wCopy, wClear, dsOf, ev, aput, aPick, aExtract, aBuiltin, aZeros, ↓reduceIte, Nat.reduceAdd, Nat.reduceSub, Nat.reduceMul, Nat.reduceEqDiff, reduceCtorEq, Int.reduceGT, Int.reduceLT, Int.reduceLE, Int.reduceGE, Int.reduceEq, Int.reduceToNat, Int.reduceAdd, Int.reduceSub, Int.reduceNeg, Int.reduceMul, Nat.reduceLeDiff, tys, hL]) rfl) (by simp only [sid]; omega) (by decide) hs (by omega)
  refine acall.ac hc ?_
  have hL1 : h1.length = L := by omega
  have hx1 : tx x 10 := (show ∀ x ∈ [[97], [98], [110, 105, 120], []], tx x 10 by decide) x hx
  simp (maxSteps := 4000000) (disch := (first | omega | (simp only [List.length_append, List.length_cons, List.length_nil, List.length_map, List.length_set]; omega))) only [wk, wb, run_block, cnd_dec, cnd_ndec, hset_c0, wBuiltin, wAppend, wCopy, wClear, dsOf, ev, aput, aPick, aExtract, aBuiltin, aZeros, ↓reduceIte, Nat.reduceAdd, Nat.reduceSub, Nat.reduceMul, Nat.reduceEqDiff, reduceCtorEq, Int.reduceGT, Int.reduceLT, Int.reduceLE, Int.reduceGE, Int.reduceEq, Int.reduceToNat, Int.reduceAdd, Int.reduceSub, Int.reduceNeg, Int.reduceMul, Nat.reduceLeDiff, tys, hL1]
  rw [run_seq]
  refine run_cut (α := Bs × AHeap × AHeap) 98 (fun y => [(0, ptr p), (1, ptr q), (5, str y.1)]) (fun y => y.2.1 ++ (t0 ++ y.2.2)) (fun y => tx y.1 10 ∧ Src y.2.1 p (n + 6) ∧ Only p h y.2.1 ∧ y.2.1.length = L) ?_ ?_
  · have hr1 := hrow h1 ho1 hL1
    simp (maxSteps := 4000000) (disch := (first | omega | (simp only [List.length_append, List.length_cons, List.length_nil, List.length_map, List.length_set]; omega))) only [wk, wb, run_block, run_seq, cnd_dec, cnd_ndec, hset_c0, wBuiltin, wAppend, wCopy, wClear, dsOf, ev, aput, aPick, aExtract, aBuiltin, aZeros, ↓reduceIte, Nat.reduceAdd, Nat.reduceSub, Nat.reduceMul, Nat.reduceEqDiff, reduceCtorEq, Int.reduceGT, Int.reduceLT, Int.reduceLE, Int.reduceGE, Int.reduceEq, Int.reduceToNat, Int.reduceAdd, Int.reduceSub, Int.reduceNeg, Int.reduceMul, Nat.reduceLeDiff, tys, ptr, hL1, hj h1 ho1 hL1, hr1.alen]
    refine ⟨fun h0 => ?_, fun h0 => ⟨(x, h1, [⟨[[97], [98], [110, 105, 120], []].map str, 9, true⟩]), ⟨hx1, hs1.mono (by omega), ho1, hL1⟩, (by repeat (first | exact FrI.nil _ rfl | refine FrI.cons rfl ?_)), rfl⟩⟩
    obtain ⟨v, h2, hc, ⟨b, rfl⟩, hs2, ho2, hl2⟩ := one_ok h1 (t0 ++ [⟨[[97], [98], [110, 105, 120], []].map str, 9, true⟩]) p (n + 2) 6 hs1 (by omega) (by omega)
    refine acall.ac hc ?_
    have hL2 : h2.length = L := by omega
    have hr2 := hrow h2 (ho1.trans ho2) hL2
    cases b with
    | true =>
      simp (maxSteps := 4000000) (disch := (first | omega | (simp only [List.length_append, List.length_cons, List.length_nil, List.length_map, List.length_set]; omega))) only [wk, wb, run_block, run_seq, cnd_dec, cnd_ndec, hset_c0, wBuiltin, wAppend, wCopy, wClear, dsOf, ev, aput, aPick, aExtract, aBuiltin, aZeros, ↓reduceIte, Nat.reduceAdd, Nat.reduceSub, Nat.reduceMul, Nat.reduceEqDiff, reduceCtorEq, Int.reduceGT, Int.reduceLT, Int.reduceLE, Int.reduceGE, Int.reduceEq, Int.reduceToNat, Int.reduceAdd, Int.reduceSub, Int.reduceNeg, Int.reduceMul, Nat.reduceLeDiff, tys, ptr, hL2, hj h2 (ho1.trans ho2) hL2]
      exact ⟨(x, h2, [⟨[[97], [98], [110, 105, 120], []].map str, 9, true⟩]), ⟨hx1, hs2.mono (by omega), ho1.trans ho2, hL2⟩, (by repeat (first | exact FrI.nil _ rfl | refine FrI.cons rfl ?_)), rfl⟩
    | false =>
      simp (maxSteps := 4000000) (disch := (first | omega | (simp only [List.length_append, List.length_cons, List.length_nil, List.length_map, List.length_set]; omega))) only [wk, wb, run_block, run_seq, cnd_dec, cnd_ndec, hset_c0, wBuiltin, wAppend, wCopy, wClear, dsOf, ev, aput, aPick, aExtract, aBuiltin, aZeros, ↓reduceIte, Nat.reduceAdd, Nat.reduceSub, Nat.reduceMul, Nat.reduceEqDiff, reduceCtorEq, Int.reduceGT, Int.reduceLT, Int.reduceLE, Int.reduceGE, Int.reduceEq, Int.reduceToNat, Int.reduceAdd, Int.reduceSub, Int.reduceNeg, Int.reduceMul, Nat.reduceLeDiff, tys, ptr, hL2, hj h2 (ho1.trans ho2) hL2]
      obtain ⟨v, h3, hc, ⟨y, hy, rfl⟩, hs3, ho3, hl3⟩ := text_ok h2 (t0 ++ [⟨[[97], [98], [110, 105, 120], []].map str, 9, true⟩]) p (n + 4) nv names (hr2.appR _) hsid (by omega) hs2 (by omega)
      refine acall.ac hc ?_
      have hL3 : h3.length = L := by omega
      simp (maxSteps := 4000000) (disch := (first | omega | (simp only [List.length_append, List.length_cons, List.length_nil, List.length_map, List.length_set]; omega))) only [wk, wb, run_block, run_seq, cnd_dec, cnd_ndec, hset_c0, wBuiltin, wAppend, wCopy, wClear, dsOf, ev, aput, aPick, aExtract, aBuiltin, aZeros, ↓reduceIte, Nat.reduceAdd, Nat.reduceSub, Nat.reduceMul, Nat.reduceEqDiff, reduceCtorEq, Int.reduceGT, Int.reduceLT, Int.reduceLE, Int.reduceGE, Int.reduceEq, Int.reduceToNat, Int.reduceAdd, Int.reduceSub, Int.reduceNeg, Int.reduceMul, Nat.reduceLeDiff, tys, ptr, hL3]
      exact ⟨(y, h3, [⟨[[97], [98], [110, 105, 120], []].map str, 9, true⟩]), ⟨htx y hy, hs3.mono (by omega), (ho1.trans ho2).trans ho3, hL3⟩, (by repeat (first | exact FrI.nil _ rfl | refine FrI.cons rfl ?_)), rfl⟩
  · rintro ⟨nm, g, t⟩ fr ⟨k1, k2, k3, k4⟩ hF
    simp only at k1 k2 k3 k4 hF
    rw [hF.lit]; simp only [flx_z, flx_n, flx_c, ↓reduceIte, Nat.reduceEqDiff, Nat.reduceAdd]
    simp (maxSteps := 4000000) (disch := (first | omega | (simp only [List.length_append, List.length_cons, List.length_nil, List.length_map, List.length_set]; omega))) only [wk, wb, run_block, run_seq, cnd_dec, cnd_ndec, hset_c0, wBuiltin, wAppend, wCopy, wClear, dsOf, ev, aput, aPick, aExtract, aBuiltin, aZeros, ↓reduceIte, Nat.reduceAdd, Nat.reduceSub, Nat.reduceMul, Nat.reduceEqDiff, reduceCtorEq, Int.reduceGT, Int.reduceLT, Int.reduceLE, Int.reduceGE, Int.reduceEq, Int.reduceToNat, Int.reduceAdd, Int.reduceSub, Int.reduceNeg, Int.reduceMul, Nat.reduceLeDiff, tys, ptr, k4]
    obtain ⟨v, g1, hc, ⟨fresh, hf, rfl⟩, hs1, ho1, hl1⟩ := text_ok g (t0 ++ (t ++ [⟨[[97], [98], [110, 101, 119], [120], [99, 111, 105, 110], [81]].map str, 9, true⟩])) p (n + 6) (.slice (some ⟨L + (t0.length + t.length), 0, none⟩) 6 6) [[97], [98], [110, 101, 119], [120], [99, 111, 105, 110], [81]] (Row.new (by simp (maxSteps := 4000000) (disch := (first | omega | (simp only [List.length_append, List.length_cons, List.length_nil, List.length_map, List.length_set]; omega))) only [wk, wb, run_block, run_seq, cnd_dec, cnd_ndec, hset_c0, wBuiltin, wAppend, wCopy, wClear, dsOf, ev, aput, aPick, aExtract, aBuiltin, aZeros, ↓reduceIte, Nat.reduceAdd, Nat.reduceSub, Nat.reduceMul, Nat.reduceEqDiff, reduceCtorEq, Int.reduceGT, Int.reduceLT, Int.reduceLE, Int.reduceGE, Int.reduceEq, Int.reduceToNat, Int.reduceAdd, Int.reduceSub, Int.reduceNeg, Int.reduceMul, Nat.reduceLeDiff, tys, k4]) rfl) (by simp only [sid]; omega) (by decide) k2 (by omega)
    refine acall.ac hc ?_
    have hL1 : g1.length = L := by omega
    have hf1 : tx fresh 4 := (show ∀ x ∈ [[97], [98], [110, 101, 119], [120], [99, 111, 105, 110], [81]], tx x 4 by decide) fresh hf
    have hO1 := k3.trans ho1
    simp (maxSteps := 4000000) (disch := (first | omega | (simp only [List.length_append, List.length_cons, List.length_nil, List.length_map, List.length_set]; omega))) only [wk, wb, run_block, cnd_dec, cnd_ndec, hset_c0, wBuiltin, wAppend, wCopy, wClear, dsOf, ev, aput, aPick, aExtract, aBuiltin, aZeros, ↓reduceIte, Nat.reduceAdd, Nat.reduceSub, Nat.reduceMul, Nat.reduceEqDiff, reduceCtorEq, Int.reduceGT, Int.reduceLT, Int.reduceLE, Int.reduceGE, Int.reduceEq, Int.reduceToNat, Int.reduceAdd, Int.reduceSub, Int.reduceNeg, Int.reduceMul, Nat.reduceLeDiff, tys, hL1]
    rw [run_seq]
    refine run_cut (α := AHeap × AHeap) 98 (fun y => [(0, ptr p), (5, str nm)]) (fun y => y.1 ++ (t0 ++ y.2)) (fun y => Src y.1 p (n + 10) ∧ Only p h y.1 ∧ y.1.length = L) ?_ ?_
    · simp (maxSteps := 4000000) (disch := (first | omega | (simp only [List.length_append, List.length_cons, List.length_nil, List.length_map, List.length_set]; omega))) only [wk, wb, run_block, run_seq, cnd_dec, cnd_ndec, hset_c0, wBuiltin, wAppend, wCopy, wClear, dsOf, ev, aput, aPick, aExtract, aBuiltin, aZeros, ↓reduceIte, Nat.reduceAdd, Nat.reduceSub, Nat.reduceMul, Nat.reduceEqDiff, reduceCtorEq, Int.reduceGT, Int.reduceLT, Int.reduceLE, Int.reduceGE, Int.reduceEq, Int.reduceToNat, Int.reduceAdd, Int.reduceSub, Int.reduceNeg, Int.reduceMul, Nat.reduceLeDiff, tys, ptr, hL1]
      obtain ⟨t1, ht1⟩ : ∃ t1, t ++ [⟨[str [97], str [98], str [110, 101, 119], str [120], str [99, 111, 105, 110], str [81]], 9, true⟩] = t1 := ⟨_, rfl⟩
      rw [ht1]
      have hl1' := hf1.1; have hl2' := k1.1
      obtain ⟨v, g2, hc, ⟨c, rfl, hc1, hc2⟩, hs2, ho2, hl2⟩ := pick_ok g1 (t0 ++ t1) p (n + 8) 7 hs1 (by omega) (by omega)
      refine acall.ac hc ?_
      have hL2 : g2.length = L := by omega
      have hO2 := hO1.trans ho2
      rcases (show (c : Int) = 0 ∨ (c : Int) = 1 ∨ (c : Int) = 2 ∨ (c : Int) = 3 ∨ (c : Int) = 4 ∨ (c : Int) = 5 ∨ (c : Int) = 6 by omega) with h | h | h | h | h | h | h <;> rw [h] <;> simp (maxSteps := 4000000) (disch := (first | omega | (simp only [List.length_append, List.length_cons, List.length_nil, List.length_map, List.length_set]; omega))) only [wk, wb, run_block, run_seq, cnd_dec, cnd_ndec, hset_c0, wBuiltin, wAppend, wCopy, wClear, dsOf, ev, aput, aPick, aExtract, aBuiltin, aZeros, ↓reduceIte, Nat.reduceAdd, Nat.reduceSub, Nat.reduceMul, Nat.reduceEqDiff, reduceCtorEq, Int.reduceGT, Int.reduceLT, Int.reduceLE, Int.reduceGE, Int.reduceEq, Int.reduceToNat, Int.reduceAdd, Int.reduceSub, Int.reduceNeg, Int.reduceMul, Nat.reduceLeDiff, tys, ptr, hL2]
      · obtain ⟨v, g3, hc, ⟨y, hy, rfl⟩, hs3, ho3, hl3⟩ := text_ok g2 (t0 ++ (t1 ++ [⟨[[], [119, 104, 97, 116], [115, 101, 116], [115, 101, 116, 32, 97], [115, 101, 116, 32, 97, 32, 114, 58, 51, 58, 51, 58, 56], [98, 105, 116, 115, 32, 97], [98, 105, 116, 115, 32, 97, 32, 120], [99, 111, 112, 121, 32, 97], [100, 114, 111, 112], [115, 104, 111, 119], [99, 121, 99, 108, 101], [114, 111, 108, 108, 32, 97, 32, 48], [98, 105, 116, 115, 32, 32, 97, 32, 51], [99, 97, 114, 100, 115, 32, 97, 32, 49, 51]].map str, 9, true⟩])) p (n + 10) (.slice (some ⟨L + (t0.length + t1.length), 0, none⟩) 14 14) [[], [119, 104, 97, 116], [115, 101, 116], [115, 101, 116, 32, 97], [115, 101, 116, 32, 97, 32, 114, 58, 51, 58, 51, 58, 56], [98, 105, 116, 115, 32, 97], [98, 105, 116, 115, 32, 97, 32, 120], [99, 111, 112, 121, 32, 97], [100, 114, 111, 112], [115, 104, 111, 119], [99, 121, 99, 108, 101], [114, 111, 108, 108, 32, 97, 32, 48], [98, 105, 116, 115, 32, 32, 97, 32, 51], [99, 97, 114, 100, 115, 32, 97, 32, 49, 51]] (Row.new (by simp (maxSteps := 4000000) (disch := (first | omega | (simp only [List.length_append, List.length_cons, List.length_nil, List.length_map, List.length_set]; omega))) only [wk, wb, run_block, run_seq, cnd_dec, cnd_ndec, hset_c0, wBuiltin, wAppend, wCopy, wClear, dsOf, ev, aput, aPick, aExtract, aBuiltin, aZeros, ↓reduceIte, Nat.reduceAdd, Nat.reduceSub, Nat.reduceMul, Nat.reduceEqDiff, reduceCtorEq, Int.reduceGT, Int.reduceLT, Int.reduceLE, Int.reduceGE, Int.reduceEq, Int.reduceToNat, Int.reduceAdd, Int.reduceSub, Int.reduceNeg, Int.reduceMul, Nat.reduceLeDiff, tys, hL2]) rfl) (by simp only [sid]; omega) (by decide) hs2 (by omega)
        refine acall.ac hc ?_
        have hL3 : g3.length = L := by omega
        simp (maxSteps := 4000000) (disch := (first | omega | (simp only [List.length_append, List.length_cons, List.length_nil, List.length_map, List.length_set]; omega))) only [wk, wb, run_block, run_seq, cnd_dec, cnd_ndec, hset_c0, wBuiltin, wAppend, wCopy, wClear, dsOf, ev, aput, aPick, aExtract, aBuiltin, aZeros, ↓reduceIte, Nat.reduceAdd, Nat.reduceSub, Nat.reduceMul, Nat.reduceEqDiff, reduceCtorEq, Int.reduceGT, Int.reduceLT, Int.reduceLE, Int.reduceGE, Int.reduceEq, Int.reduceToNat, Int.reduceAdd, Int.reduceSub, Int.reduceNeg, Int.reduceMul, Nat.reduceLeDiff, tys, hL3]
        exact ⟨⟨y, rfl, ((show ∀ x ∈ [[], [119, 104, 97, 116], [115, 101, 116], [115, 101, 116, 32, 97], [115, 101, 116, 32, 97, 32, 114, 58, 51, 58, 51, 58, 56], [98, 105, 116, 115, 32, 97], [98, 105, 116, 115, 32, 97, 32, 120], [99, 111, 112, 121, 32, 97], [100, 114, 111, 112], [115, 104, 111, 119], [99, 121, 99, 108, 101], [114, 111, 108, 108, 32, 97, 32, 48], [98, 105, 116, 115, 32, 32, 97, 32, 51], [99, 97, 114, 100, 115, 32, 97, 32, 49, 51]], tx x 150 by decide) y hy)⟩, g3, _, rfl, hs3.mono (by omega), hO2.trans ho3, hL3⟩
      · obtain ⟨v, g3, u, hc, hst, hs3, ho3, hl3⟩ := drawStr_ok g2 (t0 ++ t1) p (n + 10) hs2 (by omega)
        refine acall.ac hc ?_
        have hL3 : g3.length = L := by omega
        obtain ⟨k, w, t', m, f, a, s, rfl, hin⟩ := hst.nums
        simp (maxSteps := 4000000) (disch := (first | omega | (simp only [List.length_append, List.length_cons, List.length_nil, List.length_map, List.length_set]; omega))) only [wk, wb, run_block, run_seq, cnd_dec, cnd_ndec, hset_c0, wBuiltin, wAppend, wCopy, wClear, dsOf, ev, aput, aPick, aExtract, aBuiltin, aZeros, ↓reduceIte, Nat.reduceAdd, Nat.reduceSub, Nat.reduceMul, Nat.reduceEqDiff, reduceCtorEq, Int.reduceGT, Int.reduceLT, Int.reduceLE, Int.reduceGE, Int.reduceEq, Int.reduceToNat, Int.reduceAdd, Int.reduceSub, Int.reduceNeg, Int.reduceMul, Nat.reduceLeDiff, tys, hL3]
        obtain ⟨v, u2, hc, rfl⟩ := strText_ok (g3 ++ (t0 ++ (t1 ++ (u ++ [⟨[.int .i64 k, .int .i64 w, .int .i64 t', .int .i64 m, .int .i64 f, .int .i64 a, .int .i64 s], 67, true⟩])))) (L + (t0.length + (t1.length + u.length))) k w t' m f a s (by simp (maxSteps := 4000000) (disch := (first | omega | (simp only [List.length_append, List.length_cons, List.length_nil, List.length_map, List.length_set]; omega))) only [wk, wb, run_block, run_seq, cnd_dec, cnd_ndec, hset_c0, wBuiltin, wAppend, wCopy, wClear, dsOf, ev, aput, aPick, aExtract, aBuiltin, aZeros, ↓reduceIte, Nat.reduceAdd, Nat.reduceSub, Nat.reduceMul, Nat.reduceEqDiff, reduceCtorEq, Int.reduceGT, Int.reduceLT, Int.reduceLE, Int.reduceGE, Int.reduceEq, Int.reduceToNat, Int.reduceAdd, Int.reduceSub, Int.reduceNeg, Int.reduceMul, Nat.reduceLeDiff, tys, hL3]) hin
        refine acall.p hc ?_
        have hx2 := tx_str k w t' m f a s hin
        have hl1' := hf1.1; have hl2' := hx2.1
        simp (maxSteps := 4000000) (disch := (first | omega | (simp only [List.length_append, List.length_cons, List.length_nil, List.length_map, List.length_set]; omega))) only [wk, wb, run_block, run_seq, cnd_dec, cnd_ndec, hset_c0, wBuiltin, wAppend, wCopy, wClear, dsOf, ev, aput, aPick, aExtract, aBuiltin, aZeros, ↓reduceIte, Nat.reduceAdd, Nat.reduceSub, Nat.reduceMul, Nat.reduceEqDiff, reduceCtorEq, Int.reduceGT, Int.reduceLT, Int.reduceLE, Int.reduceGE, Int.reduceEq, Int.reduceToNat, Int.reduceAdd, Int.reduceSub, Int.reduceNeg, Int.reduceMul, Nat.reduceLeDiff, tys, hL3]
        refine ⟨⟨_, rfl, ?_⟩, g3, _, rfl, hs3.mono (by omega), hO2.trans ho3, hL3⟩
        have hh := ((((show tx [115, 101, 116, 32] 4 by decide).append hf1).append (show tx [32] 1 by decide)).append hx2).mono (j := 150) (by omega)
        simpa using hh
      · refine ⟨⟨_, rfl, ?_⟩, g2, _, rfl, hs2.mono (by omega), hO2, hL2⟩
        have hh := ((((show tx [99, 111, 112, 121, 32] 5 by decide).append hf1).append (show tx [32] 1 by decide)).append k1).mono (j := 150) (by omega)
        simpa using hh
      · obtain ⟨v, g3, hc, ⟨y, hy, rfl⟩, hs3, ho3, hl3⟩ := text_ok g2 (t0 ++ (t1 ++ [⟨[[115, 104, 111, 119, 32], [99, 121, 99, 108, 101, 32], [100, 114, 111, 112, 32], [115, 104, 111, 119, 32], [99, 121, 99, 108, 101, 32]].map str, 9, true⟩])) p (n + 10) (.slice (some ⟨L + (t0.length + t1.length), 0, none⟩) 5 5) [[115, 104, 111, 119, 32], [99, 121, 99, 108, 101, 32], [100, 114, 111, 112, 32], [115, 104, 111, 119, 32], [99, 121, 99, 108, 101, 32]] (Row.new (by simp (maxSteps := 4000000) (disch := (first | omega | (simp only [List.length_append, List.length_cons, List.length_nil, List.length_map, List.length_set]; omega))) only [wk, wb, run_block, run_seq, cnd_dec, cnd_ndec, hset_c0, wBuiltin, wAppend, wCopy, wClear, dsOf, ev, aput, aPick, aExtract, aBuiltin, aZeros, ↓reduceIte, Nat.reduceAdd, Nat.reduceSub, Nat.reduceMul, Nat.reduceEqDiff, reduceCtorEq, Int.reduceGT, Int.reduceLT, Int.reduceLE, Int.reduceGE, Int.reduceEq, Int.reduceToNat, Int.reduceAdd, Int.reduceSub, Int.reduceNeg, Int.reduceMul, Nat.reduceLeDiff, tys, hL2]) rfl) (by simp only [sid]; omega) (by decide) hs2 (by omega)
        refine acall.ac hc ?_
        have hL3 : g3.length = L := by omega
        have hy1 := (show ∀ x ∈ [[115, 104, 111, 119, 32], [99, 121, 99, 108, 101, 32], [100, 114, 111, 112, 32], [115, 104, 111, 119, 32], [99, 121, 99, 108, 101, 32]], tx x 10 by decide) y hy
        have hl1' := hy1.1; have hl2' := k1.1
        simp (maxSteps := 4000000) (disch := (first | omega | (simp only [List.length_append, List.length_cons, List.length_nil, List.length_map, List.length_set]; omega))) only [wk, wb, run_block, run_seq, cnd_dec, cnd_ndec, hset_c0, wBuiltin, wAppend, wCopy, wClear, dsOf, ev, aput, aPick, aExtract, aBuiltin, aZeros, ↓reduceIte, Nat.reduceAdd, Nat.reduceSub, Nat.reduceMul, Nat.reduceEqDiff, reduceCtorEq, Int.reduceGT, Int.reduceLT, Int.reduceLE, Int.reduceGE, Int.reduceEq, Int.reduceToNat, Int.reduceAdd, Int.reduceSub, Int.reduceNeg, Int.reduceMul, Nat.reduceLeDiff, tys, hL3]
        exact ⟨⟨_, rfl, (hy1.append k1).mono (by omega)⟩, g3, _, rfl, hs3.mono (by omega), hO2.trans ho3, hL3⟩
      · obtain ⟨v, g3, hc, ⟨y, rfl, hy1, hy2⟩, hs3, ho3, hl3⟩ := pick_ok g2 (t0 ++ t1) p (n + 10) 30 hs2 (by omega) (by omega)
        refine acall.ac hc ?_
        have hL3 : g3.length = L := by omega
        simp (maxSteps := 4000000) (disch := (first | omega | (simp only [List.length_append, List.length_cons, List.length_nil, List.length_map, List.length_set]; omega))) only [wk, wb, run_block, run_seq, cnd_dec, cnd_ndec, hset_c0, wBuiltin, wAppend, wCopy, wClear, dsOf, ev, aput, aPick, aExtract, aBuiltin, aZeros, ↓reduceIte, Nat.reduceAdd, Nat.reduceSub, Nat.reduceMul, Nat.reduceEqDiff, reduceCtorEq, Int.reduceGT, Int.reduceLT, Int.reduceLE, Int.reduceGE, Int.reduceEq, Int.reduceToNat, Int.reduceAdd, Int.reduceSub, Int.reduceNeg, Int.reduceMul, Nat.reduceLeDiff, tys]
        have hin : inI ((y : Int) - 1) := by unfold inI; omega
        obtain ⟨v, u2, hc, rfl⟩ := dec_ok (g3 ++ (t0 ++ t1)) ((y : Int) - 1) hin
        refine acall.p hc ?_
        have hx2 := tx_dec _ hin
        have hl3' := hx2.1
        simp (maxSteps := 4000000) (disch := (first | omega | (simp only [List.length_append, List.length_cons, List.length_nil, List.length_map, List.length_set]; omega))) only [wk, wb, run_block, run_seq, cnd_dec, cnd_ndec, hset_c0, wBuiltin, wAppend, wCopy, wClear, dsOf, ev, aput, aPick, aExtract, aBuiltin, aZeros, ↓reduceIte, Nat.reduceAdd, Nat.reduceSub, Nat.reduceMul, Nat.reduceEqDiff, reduceCtorEq, Int.reduceGT, Int.reduceLT, Int.reduceLE, Int.reduceGE, Int.reduceEq, Int.reduceToNat, Int.reduceAdd, Int.reduceSub, Int.reduceNeg, Int.reduceMul, Nat.reduceLeDiff, tys, hL3]
        refine ⟨⟨_, rfl, ?_⟩, g3, _, rfl, hs3.mono (by omega), hO2.trans ho3, hL3⟩
        have hh := ((((show tx [98, 105, 116, 115, 32] 5 by decide).append k1).append (show tx [32] 1 by decide)).append hx2).mono (j := 150) (by omega)
        simpa using hh
      · obtain ⟨v, g3, hc, ⟨y, rfl, hy1, hy2⟩, hs3, ho3, hl3⟩ := pick_ok g2 (t0 ++ t1) p (n + 10) 60000 hs2 (by omega) (by omega)
        refine acall.ac hc ?_
        have hL3 : g3.length = L := by omega
        simp (maxSteps := 4000000) (disch := (first | omega | (simp only [List.length_append, List.length_cons, List.length_nil, List.length_map, List.length_set]; omega))) only [wk, wb, run_block, run_seq, cnd_dec, cnd_ndec, hset_c0, wBuiltin, wAppend, wCopy, wClear, dsOf, ev, aput, aPick, aExtract, aBuiltin, aZeros, ↓reduceIte, Nat.reduceAdd, Nat.reduceSub, Nat.reduceMul, Nat.reduceEqDiff, reduceCtorEq, Int.reduceGT, Int.reduceLT, Int.reduceLE, Int.reduceGE, Int.reduceEq, Int.reduceToNat, Int.reduceAdd, Int.reduceSub, Int.reduceNeg, Int.reduceMul, Nat.reduceLeDiff, tys]
        obtain ⟨v, g4, hc, ⟨z, rfl, hz1, hz2⟩, hs4, ho4, hl4⟩ := pick_ok g3 (t0 ++ t1) p (n + 12) 60000 hs3 (by omega) (by omega)
        refine acall.ac hc ?_
        have hL4 : g4.length = L := by omega
        have hyz : (y : Int) * (z : Int) ≤ 65536 * 65536 ∧ 0 ≤ (y : Int) * (z : Int) := ⟨Int.mul_le_mul (by omega) (by omega) (by omega) (by omega), Int.mul_nonneg (by omega) (by omega)⟩
        simp (maxSteps := 4000000) (disch := (first | omega | (simp only [List.length_append, List.length_cons, List.length_nil, List.length_map, List.length_set]; omega))) only [wk, wb, run_block, run_seq, cnd_dec, cnd_ndec, hset_c0, wBuiltin, wAppend, wCopy, wClear, dsOf, ev, aput, aPick, aExtract, aBuiltin, aZeros, ↓reduceIte, Nat.reduceAdd, Nat.reduceSub, Nat.reduceMul, Nat.reduceEqDiff, reduceCtorEq, Int.reduceGT, Int.reduceLT, Int.reduceLE, Int.reduceGE, Int.reduceEq, Int.reduceToNat, Int.reduceAdd, Int.reduceSub, Int.reduceNeg, Int.reduceMul, Nat.reduceLeDiff, tys]
        have hin : inI ((y : Int) * (z : Int)) := by unfold inI; omega
        obtain ⟨v, u2, hc, rfl⟩ := dec_ok (g4 ++ (t0 ++ t1)) ((y : Int) * (z : Int)) hin
        refine acall.p hc ?_
        have hx2 := tx_dec _ hin
        have hl3' := hx2.1
        simp (maxSteps := 4000000) (disch := (first | omega | (simp only [List.length_append, List.length_cons, List.length_nil, List.length_map, List.length_set]; omega))) only [wk, wb, run_block, run_seq, cnd_dec, cnd_ndec, hset_c0, wBuiltin, wAppend, wCopy, wClear, dsOf, ev, aput, aPick, aExtract, aBuiltin, aZeros, ↓reduceIte, Nat.reduceAdd, Nat.reduceSub, Nat.reduceMul, Nat.reduceEqDiff, reduceCtorEq, Int.reduceGT, Int.reduceLT, Int.reduceLE, Int.reduceGE, Int.reduceEq, Int.reduceToNat, Int.reduceAdd, Int.reduceSub, Int.reduceNeg, Int.reduceMul, Nat.reduceLeDiff, tys, hL4]
        refine ⟨⟨_, rfl, ?_⟩, g4, _, rfl, hs4.mono (by omega), (hO2.trans ho3).trans ho4, hL4⟩
        have hh := ((((show tx [115, 107, 105, 112, 32] 5 by decide).append k1).append (show tx [32] 1 by decide)).append hx2).mono (j := 150) (by omega)
        simpa using hh
      · exact ⟨(g2, t1), ⟨hs2, hO2, hL2⟩, (by repeat (first | exact FrI.nil _ rfl | refine FrI.cons rfl ?_)), rfl⟩
    · rintro ⟨g2, t2⟩ fr ⟨j1, j2, j3⟩ hF
      simp only at j1 j2 j3 hF
      rw [hF.lit]; simp only [flx_z, flx_n, flx_c, ↓reduceIte, Nat.reduceEqDiff, Nat.reduceAdd]
      simp (maxSteps := 4000000) (disch := (first | omega | (simp only [List.length_append, List.length_cons, List.length_nil, List.length_map, List.length_set]; omega))) only [wk, wb, run_block, run_seq, cnd_dec, cnd_ndec, hset_c0, wBuiltin, wAppend, wCopy, wClear, dsOf, ev, aput, aPick, aExtract, aBuiltin, aZeros, ↓reduceIte, Nat.reduceAdd, Nat.reduceSub, Nat.reduceMul, Nat.reduceEqDiff, reduceCtorEq, Int.reduceGT, Int.reduceLT, Int.reduceLE, Int.reduceGE, Int.reduceEq, Int.reduceToNat, Int.reduceAdd, Int.reduceSub, Int.reduceNeg, Int.reduceMul, Nat.reduceLeDiff, tys, ptr, j3]
      obtain ⟨v, g3, hc, ⟨y, hy, rfl⟩, hs3, ho3, hl3⟩ := text_ok g2 (t0 ++ (t2 ++ [⟨[[114, 111, 108, 108, 32], [99, 97, 114, 100, 115, 32], [108, 101, 118, 101, 108, 115, 32]].map str, 9, true⟩])) p (n + 10) (.slice (some ⟨L + (t0.length + t2.length), 0, none⟩) 3 3) [[114, 111, 108, 108, 32], [99, 97, 114, 100, 115, 32], [108, 101, 118, 101, 108, 115, 32]] (Row.new (by simp (maxSteps := 4000000) (disch := (first | omega | (simp only [List.length_append, List.length_cons, List.length_nil, List.length_map, List.length_set]; omega))) only [wk, wb, run_block, run_seq, cnd_dec, cnd_ndec, hset_c0, wBuiltin, wAppend, wCopy, wClear, dsOf, ev, aput, aPick, aExtract, aBuiltin, aZeros, ↓reduceIte, Nat.reduceAdd, Nat.reduceSub, Nat.reduceMul, Nat.reduceEqDiff, reduceCtorEq, Int.reduceGT, Int.reduceLT, Int.reduceLE, Int.reduceGE, Int.reduceEq, Int.reduceToNat, Int.reduceAdd, Int.reduceSub, Int.reduceNeg, Int.reduceMul, Nat.reduceLeDiff, tys, j3]) rfl) (by simp only [sid]; omega) (by decide) j1 (by omega)
      refine acall.ac hc ?_
      have hL3 : g3.length = L := by omega
      have hy1 := (show ∀ x ∈ [[114, 111, 108, 108, 32], [99, 97, 114, 100, 115, 32], [108, 101, 118, 101, 108, 115, 32]], tx x 10 by decide) y hy
      have hl1' := hy1.1; have hl2' := k1.1
      simp (maxSteps := 4000000) (disch := (first | omega | (simp only [List.length_append, List.length_cons, List.length_nil, List.length_map, List.length_set]; omega))) only [wk, wb, run_block, run_seq, cnd_dec, cnd_ndec, hset_c0, wBuiltin, wAppend, wCopy, wClear, dsOf, ev, aput, aPick, aExtract, aBuiltin, aZeros, ↓reduceIte, Nat.reduceAdd, Nat.reduceSub, Nat.reduceMul, Nat.reduceEqDiff, reduceCtorEq, Int.reduceGT, Int.reduceLT, Int.reduceLE, Int.reduceGE, Int.reduceEq, Int.reduceToNat, Int.reduceAdd, Int.reduceSub, Int.reduceNeg, Int.reduceMul, Nat.reduceLeDiff, tys, hL3]
      obtain ⟨v, g4, hc, ⟨z, rfl, hz1, hz2⟩, hs4, ho4, hl4⟩ := pick_ok g3 (t0 ++ (t2 ++ [⟨[[114, 111, 108, 108, 32], [99, 97, 114, 100, 115, 32], [108, 101, 118, 101, 108, 115, 32]].map str, 9, true⟩])) p (n + 12) 18 hs3 (by omega) (by omega)
      refine acall.ac hc ?_
      have hL4 : g4.length = L := by omega
      simp (maxSteps := 4000000) (disch := (first | omega | (simp only [List.length_append, List.length_cons, List.length_nil, List.length_map, List.length_set]; omega))) only [wk, wb, run_block, run_seq, cnd_dec, cnd_ndec, hset_c0, wBuiltin, wAppend, wCopy, wClear, dsOf, ev, aput, aPick, aExtract, aBuiltin, aZeros, ↓reduceIte, Nat.reduceAdd, Nat.reduceSub, Nat.reduceMul, Nat.reduceEqDiff, reduceCtorEq, Int.reduceGT, Int.reduceLT, Int.reduceLE, Int.reduceGE, Int.reduceEq, Int.reduceToNat, Int.reduceAdd, Int.reduceSub, Int.reduceNeg, Int.reduceMul, Nat.reduceLeDiff, tys, hL4]
      have hin : inI ((z : Int) - 1) := by unfold inI; omega
      obtain ⟨v, u2, hc, rfl⟩ := dec_ok (g4 ++ (t0 ++ (t2 ++ [⟨[[114, 111, 108, 108, 32], [99, 97, 114, 100, 115, 32], [108, 101, 118, 101, 108, 115, 32]].map str, 9, true⟩]))) ((z : Int) - 1) hin
      refine acall.p hc ?_
      have hx2 := tx_dec _ hin
      have hl3' := hx2.1
      simp (maxSteps := 4000000) (disch := (first | omega | (simp only [List.length_append, List.length_cons, List.length_nil, List.length_map, List.length_set]; omega))) only [wk, wb, run_block, run_seq, cnd_dec, cnd_ndec, hset_c0, wBuiltin, wAppend, wCopy, wClear, dsOf, ev, aput, aPick, aExtract, aBuiltin, aZeros, ↓reduceIte, Nat.reduceAdd, Nat.reduceSub, Nat.reduceMul, Nat.reduceEqDiff, reduceCtorEq, Int.reduceGT, Int.reduceLT, Int.reduceLE, Int.reduceGE, Int.reduceEq, Int.reduceToNat, Int.reduceAdd, Int.reduceSub, Int.reduceNeg, Int.reduceMul, Nat.reduceLeDiff, tys, hL4]
      refine ⟨⟨_, rfl, ?_⟩, g4, _, rfl, hs4.mono (by omega), (j2.trans ho3).trans ho4, hL4⟩
      have hh := (((hy1.append k1).append (show tx [32] 1 by decide)).append hx2).mono (j := 150) (by omega)
      simpa using hh
end Go.Proofs.YtmjalehlcbfljaaDoor

/- l10Check answers the check number of a line. -/
import Derived.Test.YtmjalehlcbfljaaDoorTy
import Derived.Test.YtmjalehlcbfljaaDoorAmZ
set_option linter.unusedSectionVars false
set_option linter.defProp false
set_option linter.unusedVariables false
set_option linter.unusedSimpArgs false
set_option linter.unnecessarySimpa false
namespace Go.Proofs.YtmjalehlcbfljaaDoor
open Go Go.AM
def chk1 (c : Nat) (b : UInt8) : Nat := (4099 * c + b.toNat + 1) % 999983
def chkOf (c : Nat) (l : List UInt8) : Nat := l.foldl chk1 c
theorem chk1_lt (c : Nat) (b : UInt8) : chk1 c b < 999983 := Nat.mod_lt _ (by omega)
set_option maxRecDepth 4000
theorem checkOf_ok (h : AHeap) (c : Nat) (l : List UInt8) (hc : c < 999983) (hl : l.length < 4611686018427387904) : ∃ v t, ACp Tryd.prog 14 [.int .i64 c, str l] h v t ∧ v = .int .i64 (chkOf c l) ∧ t = [] := by
  refine ACp.walk Tryd.func14 rfl (by decide) (by kernel_rfl) mixed ?_
  simp (maxSteps := 4000000) (disch := (first | omega | (simp only [List.length_append, List.length_cons, List.length_nil, List.length_map, List.length_set]; omega))) only [wk, wb, run_block, run_seq, cnd_dec, cnd_ndec, hset_c0, wBuiltin, wAppend, wCopy, wClear, dsOf, ev, aput, aPick, aExtract, aBuiltin, aZeros, ↓reduceIte, Nat.reduceAdd, Nat.reduceSub, Nat.reduceMul, Nat.reduceEqDiff, reduceCtorEq, Int.reduceGT, Int.reduceLT, Int.reduceLE, Int.reduceGE, Int.reduceEq, Int.reduceToNat, Int.reduceAdd, Int.reduceSub, Int.reduceNeg, Int.reduceMul, Nat.reduceLeDiff, tys, Tryd.f14]
  refine RL.wf (α := Nat × Nat) (fun x => l.length - x.1) (fun x => flg 0 22 [(0, .int .i64 (x.2 : Int)), (1, str l), (7, .int .i64 (l.length : Int)), (8, .int .i64 (x.1 : Int))]) (fun _ => frz h)
    (fun x => x.1 ≤ l.length ∧ x.2 = chkOf c (l.take x.1) ∧ x.2 < 999983) ?_ (0, c) ⟨by omega, rfl, hc⟩ _ _ (by simp only [flg_z, flg_n, flg_c, ↓reduceIte, Nat.reduceEqDiff, Nat.reduceAdd]; repeat (first | exact FLe.nil | apply FLe.junk | apply FLe.same)) (HLe.refl _)
  rintro ⟨i, d⟩ ⟨h1, h2, h3⟩ ih
  simp only at h1 h2 h3
  have hb := (l.getD i 0).toNat_lt
  refine RL.round ?_
  simp (contextual := true) (maxSteps := 4000000) (disch := (first | omega | (simp only [List.length_append, List.length_cons, List.length_nil, List.length_map, List.length_set]; omega))) only [wk, wb, run_block, run_seq, cnd_dec, cnd_ndec, hset_c0, wBuiltin, wAppend, wCopy, wClear, dsOf, ev, aput, aPick, aExtract, aBuiltin, aZeros, ↓reduceIte, Nat.reduceAdd, Nat.reduceSub, Nat.reduceMul, Nat.reduceEqDiff, reduceCtorEq, Int.reduceGT, Int.reduceLT, Int.reduceLE, Int.reduceGE, Int.reduceEq, Int.reduceToNat, Int.reduceAdd, Int.reduceSub, Int.reduceNeg, Int.reduceMul, Nat.reduceLeDiff, tys]
  refine ⟨fun hi => ?_, fun hi => ⟨[], by simp, ?_, rfl⟩⟩
  · have hi' : i < l.length := by omega
    have e : ((4099 * (d : Int) + ((l.getD i 0).toNat : Int) + 1) % 999983) = ((chk1 d (l.getD i 0) : Nat) : Int) := by simp [chk1]
    rw [e]
    refine ih (i + 1, chk1 d (l.getD i 0)) (by simp only; omega) ⟨by simp only; omega, ?_, chk1_lt _ _⟩ _ _ (by simp only [flg_z, flg_n, flg_c, ↓reduceIte, Nat.reduceEqDiff, Nat.reduceAdd]; repeat (first | exact FLe.nil | apply FLe.junk | apply FLe.same)) (HLe.refl _)
    simp only [h2, chkOf, List.take_add_one, List.foldl_append, List.getElem?_eq_getElem hi', List.getD_eq_getElem?_getD]
    simp
  · rw [h2, List.take_of_length_le (by omega)]
end Go.Proofs.YtmjalehlcbfljaaDoor

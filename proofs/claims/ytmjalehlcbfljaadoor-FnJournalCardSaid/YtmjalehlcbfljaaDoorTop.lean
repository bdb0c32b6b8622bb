/- laws.FnJournal answers true at all arguments that are slices of bytes, in the abstract machine. -/
import Derived.Test.YtmjalehlcbfljaaDoorJno
import Derived.Test.YtmjalehlcbfljaaDoorLns
import Derived.Test.YtmjalehlcbfljaaDoorRcv
set_option linter.unusedSectionVars false
set_option linter.defProp false
set_option linter.unusedVariables false
set_option linter.unusedSimpArgs false
set_option linter.unnecessarySimpa false
namespace Go.Proofs.YtmjalehlcbfljaaDoor
open Go Go.AM
set_option maxRecDepth 8000
set_option maxHeartbeats 8000000
theorem jour_len (c : Nat) (hc : c < 999983) (lines : List Bs) (k : Nat) (hl : ∀ l ∈ lines, tx l k) : (jour c lines).length ≤ (k + 22) * lines.length := by
  induction lines generalizing c with
  | nil => simp [jour]
  | cons l r ih =>
    have h1 := ih (chkOf c l) (chkOf_lt hc l) fun x hx => hl x (by simp [hx])
    have h2 := (hl l (by simp)).1
    have h4 := chkOf_lt hc l
    have h3 := decB_len (chkOf c l : Nat) (by omega)
    simp only [jour, jent, List.length_append, List.length_cons, List.length_nil, Nat.mul_succ]
    omega
theorem conv1 (h : AHeap) (id x : Nat) (hx : x < 256) (hr : rd h id = some [.int .u8 x]) : aConvert Tryd.prog 22 9 (.slice (some ⟨id, 0, none⟩) 1 1) h = some (str [UInt8.ofNat x]) := by
  have e : (Value.int .u8 (x : Int)) = .int .u8 ((UInt8.ofNat x).toNat : Nat) := by
    have : (UInt8.ofNat x).toNat = x := by simp; omega
    rw [this]
  have r : Row h (.slice (some ⟨id, 0, none⟩) 1 1) ([UInt8.ofNat x]).length 1 ([UInt8.ofNat x].map fun b => Value.int .u8 b.toNat) := Row.new (by rw [hr, e]; rfl) rfl
  exact r.toStr (P := Tryd.prog) st9 se22 (by kernel_rfl) (fun h => by simp at h)
theorem journal_top (h : AHeap) (a b : Value) (ca cb : Bs) (ha : Row h a ca.length 1 (ca.map byteV)) (hb : Row h b cb.length 1 (cb.map byteV)) (hla : ca.length < 9223372036854775808) (hlb : cb.length < 9223372036854775808) :
    ∃ v t, ACp Tryd.prog 3 [a, b] h v t ∧ v = .bool true := by
  obtain ⟨L, hL⟩ : ∃ L, h.length = L := ⟨_, rfl⟩
  have hLf : (frz h).length = L := by simpa using hL
  refine ACp.walk Tryd.func3 rfl (by decide) (by kernel_rfl) mixed ?_
  simp (maxSteps := 4000000) (disch := (first | omega | (simp only [List.length_append, List.length_cons, List.length_nil, List.length_map, List.length_set]; omega))) only [wk, wb, run_block, run_seq, cnd_dec, cnd_ndec, hset_c0, wBuiltin, wAppend, wCopy, wClear, dsOf, ev, aput, aPick, aExtract, aBuiltin, aZeros, ↓reduceIte, Nat.reduceAdd, Nat.reduceSub, Nat.reduceMul, Nat.reduceEqDiff, reduceCtorEq, Int.reduceGT, Int.reduceLT, Int.reduceLE, Int.reduceGE, Int.reduceEq, Int.reduceToNat, Int.reduceAdd, Int.reduceSub, Int.reduceNeg, Int.reduceMul, Nat.reduceLeDiff, tys, Tryd.f3, hL]
  obtain ⟨v, t, c1, rfl, rfl⟩ := long_ok (frz h) a b (ca.map byteV) (cb.map byteV) (by simpa using ha.frz) (by simpa using hb.frz) (by simp; omega) (by simp; omega)
  refine acall.p c1 ?_
  generalize hlong : (decide (1048576 < (ca.map byteV).length) || decide (1048576 < (cb.map byteV).length)) = long
  cases long with
  | true => simp (maxSteps := 4000000) (disch := (first | omega | (simp only [List.length_append, List.length_cons, List.length_nil, List.length_map, List.length_set]; omega))) only [wk, wb, run_block, run_seq, cnd_dec, cnd_ndec, hset_c0, wBuiltin, wAppend, wCopy, wClear, dsOf, ev, aput, aPick, aExtract, aBuiltin, aZeros, ↓reduceIte, Nat.reduceAdd, Nat.reduceSub, Nat.reduceMul, Nat.reduceEqDiff, reduceCtorEq, Int.reduceGT, Int.reduceLT, Int.reduceLE, Int.reduceGE, Int.reduceEq, Int.reduceToNat, Int.reduceAdd, Int.reduceSub, Int.reduceNeg, Int.reduceMul, Nat.reduceLeDiff, tys]; exact ⟨[], by simp⟩
  | false =>
    simp only [List.length_map, Bool.or_eq_false_iff, decide_eq_false_iff_not] at hlong
    replace hla : ca.length < 4611686018427387904 := by omega
    replace hlb : cb.length < 4611686018427387904 := by omega
    simp (maxSteps := 4000000) (disch := (first | omega | (simp only [List.length_append, List.length_cons, List.length_nil, List.length_map, List.length_set]; omega))) only [wk, wb, run_block, run_seq, cnd_dec, cnd_ndec, hset_c0, wBuiltin, wAppend, wCopy, wClear, dsOf, ev, aput, aPick, aExtract, aBuiltin, aZeros, ↓reduceIte, Nat.reduceAdd, Nat.reduceSub, Nat.reduceMul, Nat.reduceEqDiff, reduceCtorEq, Int.reduceGT, Int.reduceLT, Int.reduceLE, Int.reduceGE, Int.reduceEq, Int.reduceToNat, Int.reduceAdd, Int.reduceSub, Int.reduceNeg, Int.reduceMul, Nat.reduceLeDiff, tys, hL]
    obtain ⟨v, t1, c2, nv, sv, names, sc, rfl, o1, o2, hn3, hmem⟩ := b10lab_ok (frz h) b cb hb.frz hlb
    refine acall.p c2 ?_
    rw [hLf] at o1 o2
    simp (maxSteps := 4000000) (disch := (first | omega | (simp only [List.length_append, List.length_cons, List.length_nil, List.length_map, List.length_set]; omega))) only [wk, wb, run_block, run_seq, cnd_dec, cnd_ndec, hset_c0, wBuiltin, wAppend, wCopy, wClear, dsOf, ev, aput, aPick, aExtract, aBuiltin, aZeros, ↓reduceIte, Nat.reduceAdd, Nat.reduceSub, Nat.reduceMul, Nat.reduceEqDiff, reduceCtorEq, Int.reduceGT, Int.reduceLT, Int.reduceLE, Int.reduceGE, Int.reduceEq, Int.reduceToNat, Int.reduceAdd, Int.reduceSub, Int.reduceNeg, Int.reduceMul, Nat.reduceLeDiff, tys, hL]
    have hnz : names.length = 0 → sid nv < (frz h ++ t1).length + 1 := by
      intro h0
      rcases o1.sh with ⟨_, rfl | ⟨id, rfl, k1, k2⟩⟩ | ⟨hp, _⟩
      · simp [sid]
      · simp only [sid]; omega
      · omega
    have htx : ∀ x ∈ names, tx x 10 := fun x hx => (show ∀ x ∈ labNames, tx x 10 by decide) x (hmem x hx)
    obtain ⟨v5, t2, c3, lines, r1, hl6, hltx⟩ := lines_ok (frz h ++ t1) a ca (ha.frz.app t1) hla nv sv names o1.row o2.isCell (by omega) hnz htx
    refine acall.p c3 ?_
    simp (maxSteps := 4000000) (disch := (first | omega | (simp only [List.length_append, List.length_cons, List.length_nil, List.length_map, List.length_set]; omega))) only [wk, wb, run_block, run_seq, cnd_dec, cnd_ndec, hset_c0, wBuiltin, wAppend, wCopy, wClear, dsOf, ev, aput, aPick, aExtract, aBuiltin, aZeros, ↓reduceIte, Nat.reduceAdd, Nat.reduceSub, Nat.reduceMul, Nat.reduceEqDiff, reduceCtorEq, Int.reduceGT, Int.reduceLT, Int.reduceLE, Int.reduceGE, Int.reduceEq, Int.reduceToNat, Int.reduceAdd, Int.reduceSub, Int.reduceNeg, Int.reduceMul, Nat.reduceLeDiff, tys, hL]
    have hnl : ∀ l ∈ lines, nlFree l := fun l hl => (hltx l hl).2
    have hjl : (jour 0 lines).length ≤ 4000 := by
      have := jour_len 0 (by omega) lines 150 hltx
      have : (150 + 22) * lines.length ≤ 172 * 6 := Nat.mul_le_mul_left _ hl6
      omega
    rw [List.append_assoc] at r1
    obtain ⟨v6, t3, c4, rfl⟩ := journal_ok (frz h ++ (t1 ++ t2)) v5 lines r1 hnl hjl (by omega)
    refine acall.p c4 ?_
    generalize hT : jour 0 lines = T at *
    simp (maxSteps := 4000000) (disch := (first | omega | (simp only [List.length_append, List.length_cons, List.length_nil, List.length_map, List.length_set]; omega))) only [wk, wb, run_block, run_seq, cnd_dec, cnd_ndec, hset_c0, wBuiltin, wAppend, wCopy, wClear, dsOf, ev, aput, aPick, aExtract, aBuiltin, aZeros, ↓reduceIte, Nat.reduceAdd, Nat.reduceSub, Nat.reduceMul, Nat.reduceEqDiff, reduceCtorEq, Int.reduceGT, Int.reduceLT, Int.reduceLE, Int.reduceGE, Int.reduceEq, Int.reduceToNat, Int.reduceAdd, Int.reduceSub, Int.reduceNeg, Int.reduceMul, Nat.reduceLeDiff, tys, hL]
    refine ⟨fun h0 => ?_, fun h0 => ?_⟩
    · have hz : lines.length = 0 := by
        have := jour_count 0 lines hnl
        have hT0 : T = [] := List.length_eq_zero_iff.1 (by omega)
        rw [hT, hT0] at this; simpa using this.symm
      simp (maxSteps := 4000000) (disch := (first | omega | (simp only [List.length_append, List.length_cons, List.length_nil, List.length_map, List.length_set]; omega))) only [wk, wb, run_block, run_seq, cnd_dec, cnd_ndec, hset_c0, wBuiltin, wAppend, wCopy, wClear, dsOf, ev, aput, aPick, aExtract, aBuiltin, aZeros, ↓reduceIte, Nat.reduceAdd, Nat.reduceSub, Nat.reduceMul, Nat.reduceEqDiff, reduceCtorEq, Int.reduceGT, Int.reduceLT, Int.reduceLE, Int.reduceGE, Int.reduceEq, Int.reduceToNat, Int.reduceAdd, Int.reduceSub, Int.reduceNeg, Int.reduceMul, Nat.reduceLeDiff, tys, r1.alen]
      exact ⟨_, rfl, by simp [hz]⟩
    · have hTpos : 0 < T.length := by omega
      have hrb := (hb.frz.app (t1 ++ (t2 ++ t3)))
      obtain ⟨v7, t4, c5, ⟨x, rfl, hx⟩, rfl⟩ := at_ok (frz h ++ (t1 ++ (t2 ++ t3))) b cb hrb (by omega) 0 256 (by omega) (by omega)
      refine acall.p c5 ?_
      simp (maxSteps := 4000000) (disch := (first | omega | (simp only [List.length_append, List.length_cons, List.length_nil, List.length_map, List.length_set]; omega))) only [wk, wb, run_block, run_seq, cnd_dec, cnd_ndec, hset_c0, wBuiltin, wAppend, wCopy, wClear, dsOf, ev, aput, aPick, aExtract, aBuiltin, aZeros, ↓reduceIte, Nat.reduceAdd, Nat.reduceSub, Nat.reduceMul, Nat.reduceEqDiff, reduceCtorEq, Int.reduceGT, Int.reduceLT, Int.reduceLE, Int.reduceGE, Int.reduceEq, Int.reduceToNat, Int.reduceAdd, Int.reduceSub, Int.reduceNeg, Int.reduceMul, Nat.reduceLeDiff, tys, hL]
      obtain ⟨v7, t4, c5, ⟨y, rfl, hy⟩, rfl⟩ := at_ok (frz h ++ (t1 ++ (t2 ++ t3))) b cb hrb (by omega) 1 256 (by omega) (by omega)
      refine acall.p c5 ?_
      have e1 : ((x : Int) * 256 + (y : Int)) % (T.length : Int) = (((x * 256 + y) % T.length : Nat) : Int) := by rw [Int.natCast_emod]; congr 1
      have hat : (x * 256 + y) % T.length < T.length := Nat.mod_lt _ hTpos
      simp (maxSteps := 4000000) (disch := (first | omega | (simp only [List.length_append, List.length_cons, List.length_nil, List.length_map, List.length_set]; omega))) only [wk, wb, run_block, run_seq, cnd_dec, cnd_ndec, hset_c0, wBuiltin, wAppend, wCopy, wClear, dsOf, ev, aput, aPick, aExtract, aBuiltin, aZeros, ↓reduceIte, Nat.reduceAdd, Nat.reduceSub, Nat.reduceMul, Nat.reduceEqDiff, reduceCtorEq, Int.reduceGT, Int.reduceLT, Int.reduceLE, Int.reduceGE, Int.reduceEq, Int.reduceToNat, Int.reduceAdd, Int.reduceSub, Int.reduceNeg, Int.reduceMul, Nat.reduceLeDiff, tys, hL, e1]
      generalize (x * 256 + y) % T.length = at_ at *
      have htl : (T.take at_).length = at_ := by simp; omega
      obtain ⟨v8, t4, c6, w, list, n, rfl, r2, hrec, hll⟩ := recover_ok (frz h ++ (t1 ++ (t2 ++ t3))) (T.take at_) (by omega)
      refine acall.p c6 ?_
      simp (maxSteps := 4000000) (disch := (first | omega | (simp only [List.length_append, List.length_cons, List.length_nil, List.length_map, List.length_set]; omega))) only [wk, wb, run_block, run_seq, cnd_dec, cnd_ndec, hset_c0, wBuiltin, wAppend, wCopy, wClear, dsOf, ev, aput, aPick, aExtract, aBuiltin, aZeros, ↓reduceIte, Nat.reduceAdd, Nat.reduceSub, Nat.reduceMul, Nat.reduceEqDiff, reduceCtorEq, Int.reduceGT, Int.reduceLT, Int.reduceLE, Int.reduceGE, Int.reduceEq, Int.reduceToNat, Int.reduceAdd, Int.reduceSub, Int.reduceNeg, Int.reduceMul, Nat.reduceLeDiff, tys, hL]
      have hnat : n ≤ at_ := by have := hrec.le; omega
      have hju : jour 0 list = T.take n := by rw [← hrec.eq, List.take_take, Nat.min_eq_left hnat]
      obtain ⟨v9, t5, c7, rfl⟩ := journal_ok (frz h ++ (t1 ++ (t2 ++ (t3 ++ t4)))) w list (by simpa using r2) hrec.nl (by rw [hju]; simp; omega) hll
      refine acall.p c7 ?_
      rw [hju]
      simp (maxSteps := 4000000) (disch := (first | omega | (simp only [List.length_append, List.length_cons, List.length_nil, List.length_map, List.length_set]; omega))) only [wk, wb, run_block, run_seq, cnd_dec, cnd_ndec, hset_c0, wBuiltin, wAppend, wCopy, wClear, dsOf, ev, aput, aPick, aExtract, aBuiltin, aZeros, ↓reduceIte, Nat.reduceAdd, Nat.reduceSub, Nat.reduceMul, Nat.reduceEqDiff, reduceCtorEq, Int.reduceGT, Int.reduceLT, Int.reduceLE, Int.reduceGE, Int.reduceEq, Int.reduceToNat, Int.reduceAdd, Int.reduceSub, Int.reduceNeg, Int.reduceMul, Nat.reduceLeDiff, tys, hL]
      have hcs : ∀ i, i < T.length → (T.take (i + 1)).count 10 = (T.take i).count 10 + if T.getD i 0 = 10 then 1 else 0 := by
        intro i hi
        rw [List.take_add_one, List.getElem?_eq_getElem hi, List.count_append, List.getD_eq_getElem?_getD, List.getElem?_eq_getElem hi]
        simp [List.count_cons]
      refine RL.wf (α := Nat) (fun i => at_ - i) (fun i => flg 0 165 [(1, b), (5, v5), (6, str T), (8, .int .i64 (at_ : Int)), (9, w), (10, .int .i64 (n : Int)), (11, .bool true), (12, str (T.take n)), (13, .bool true), (14, .int .i64 ((T.take i).count 10 : Nat)), (15, .int .i64 (i : Int))]) (fun _ => frz h ++ (t1 ++ (t2 ++ (t3 ++ (t4 ++ t5)))))
        (fun i => i ≤ at_) ?_ 0 (by omega) _ _ (by simp only [flg_z, flg_n, flg_c, ↓reduceIte, Nat.reduceEqDiff, Nat.reduceAdd]; repeat (first | exact FLe.nil | apply FLe.junk | apply FLe.same)) (HLe.refl _)
      rintro i hi ih
      have hcl := List.count_le_length (a := (10 : UInt8)) (l := T.take i)
      have hcl2 : (T.take i).length ≤ 4000 := by simp; omega
      refine RL.round ?_
      simp (maxSteps := 4000000) (disch := (first | omega | (simp only [List.length_append, List.length_cons, List.length_nil, List.length_map, List.length_set]; omega))) only [wk, wb, run_block, run_seq, cnd_dec, cnd_ndec, hset_c0, wBuiltin, wAppend, wCopy, wClear, dsOf, ev, aput, aPick, aExtract, aBuiltin, aZeros, ↓reduceIte, Nat.reduceAdd, Nat.reduceSub, Nat.reduceMul, Nat.reduceEqDiff, reduceCtorEq, Int.reduceGT, Int.reduceLT, Int.reduceLE, Int.reduceGE, Int.reduceEq, Int.reduceToNat, Int.reduceAdd, Int.reduceSub, Int.reduceNeg, Int.reduceMul, Nat.reduceLeDiff, tys, hL]
      refine ⟨fun hlt => ?_, fun hge => ?_⟩
      · have hi' : i < T.length := by omega
        have hc10 : (((T.getD i 0).toNat : Int) = 10) ↔ T.getD i 0 = 10 := by
          constructor
          · intro h
            have : (T.getD i 0).toNat = (10 : UInt8).toNat := by
              have h10 : (10 : UInt8).toNat = 10 := rfl
              omega
            exact UInt8.toNat_inj.1 this
          · intro h; rw [h]; rfl
        have hsucc := hcs i hi'
        refine ⟨fun he => ?_, fun he => ?_⟩
        · rw [if_pos (hc10.1 he)] at hsucc
          have go := ih (i + 1) (by omega) (by omega)
          rw [hsucc] at go
          exact go _ _ (by simp only [flg_z, flg_n, flg_c, ↓reduceIte, Nat.reduceEqDiff, Nat.reduceAdd]; repeat (first | exact FLe.nil | apply FLe.junk | apply FLe.same)) (HLe.refl _)
        · rw [if_neg (fun h => he (hc10.2 h))] at hsucc
          have go := ih (i + 1) (by omega) (by omega)
          rw [hsucc] at go
          exact go _ _ (by simp only [flg_z, flg_n, flg_c, ↓reduceIte, Nat.reduceEqDiff, Nat.reduceAdd]; repeat (first | exact FLe.nil | apply FLe.junk | apply FLe.same)) (HLe.refl _)
      · have hia : i = at_ := by omega
        subst hia
        have hl1 := journal_law1 lines hnl i list n (by rw [hT]; exact hrec)
        rw [hT] at hl1
        obtain ⟨hl1, hl2⟩ := hl1
        generalize hW : (T.take i).count 10 = W at *
        have hWl : W ≤ lines.length := by
          have := congrArg List.length hl1
          simp at this; omega
        have rw1 : Row (frz h ++ (t1 ++ (t2 ++ (t3 ++ (t4 ++ t5))))) w list.length 1 (list.map str) := by have := r2.app t5; simpa using this
        have rw2 : Row (frz h ++ (t1 ++ (t2 ++ (t3 ++ (t4 ++ t5))))) v5 lines.length 1 (lines.map str) := by have := r1.app (t3 ++ (t4 ++ t5)); simpa using this
        have z1 : ((list.length : Int) = (W : Int)) = True := eq_true (by omega)
        have z2 : ((n : Int) < 0) = False := eq_false (by omega)
        have z3 : ((i : Int) < (n : Int)) = False := eq_false (by omega)
        simp (maxSteps := 4000000) (disch := (first | omega | (simp only [List.length_append, List.length_cons, List.length_nil, List.length_map, List.length_set]; omega))) only [wk, wb, run_block, run_seq, cnd_dec, cnd_ndec, hset_c0, wBuiltin, wAppend, wCopy, wClear, dsOf, ev, aput, aPick, aExtract, aBuiltin, aZeros, ↓reduceIte, Nat.reduceAdd, Nat.reduceSub, Nat.reduceMul, Nat.reduceEqDiff, reduceCtorEq, Int.reduceGT, Int.reduceLT, Int.reduceLE, Int.reduceGE, Int.reduceEq, Int.reduceToNat, Int.reduceAdd, Int.reduceSub, Int.reduceNeg, Int.reduceMul, Nat.reduceLeDiff, tys, hL, rw1.alen, z1, z2, z3]
        have hcellS : ∀ (ls : List Bs) (j : Nat), j < ls.length → (ls.map str).getD j undef = str (ls.getD j []) := by
          intro ls j hj; simp [List.getD_eq_getElem?_getD, hj]
        generalize hH : (t1 ++ (t2 ++ (t3 ++ (t4 ++ t5)))) = tt at *
        refine RL.wf (α := Nat) (fun j => W - j) (fun j => flg 0 165 [(1, b), (5, v5), (6, str T), (8, .int .i64 (i : Int)), (9, w), (10, .int .i64 (n : Int)), (14, .int .i64 (W : Int)), (16, .int .i64 (j : Int))]) (fun _ => frz h ++ tt)
          (fun j => j ≤ W) ?_ 0 (by omega) _ _ (by simp only [flg_z, flg_n, flg_c, ↓reduceIte, Nat.reduceEqDiff, Nat.reduceAdd]; repeat (first | exact FLe.nil | apply FLe.junk | apply FLe.same)) (HLe.refl _)
        rintro j hj ih2
        refine RL.round ?_
        simp (maxSteps := 4000000) (disch := (first | omega | (simp only [List.length_append, List.length_cons, List.length_nil, List.length_map, List.length_set]; omega))) only [wk, wb, run_block, run_seq, cnd_dec, cnd_ndec, hset_c0, wBuiltin, wAppend, wCopy, wClear, dsOf, ev, aput, aPick, aExtract, aBuiltin, aZeros, ↓reduceIte, Nat.reduceAdd, Nat.reduceSub, Nat.reduceMul, Nat.reduceEqDiff, reduceCtorEq, Int.reduceGT, Int.reduceLT, Int.reduceLE, Int.reduceGE, Int.reduceEq, Int.reduceToNat, Int.reduceAdd, Int.reduceSub, Int.reduceNeg, Int.reduceMul, Nat.reduceLeDiff, tys, hL]
        refine ⟨fun hlt2 => ?_, fun hge2 => ?_⟩
        · have hj1 : j < list.length := by omega
          have hj2 : j < lines.length := by omega
          have z4 : list.getD j [] = lines.getD j [] := by
            rw [hl1, List.getD_eq_getElem?_getD, List.getD_eq_getElem?_getD, List.getElem?_take, if_pos (by omega)]
          simp (maxSteps := 4000000) (disch := (first | omega | (simp only [List.length_append, List.length_cons, List.length_nil, List.length_map, List.length_set]; omega))) only [wk, wb, run_block, run_seq, cnd_dec, cnd_ndec, hset_c0, wBuiltin, wAppend, wCopy, wClear, dsOf, ev, aput, aPick, aExtract, aBuiltin, aZeros, ↓reduceIte, Nat.reduceAdd, Nat.reduceSub, Nat.reduceMul, Nat.reduceEqDiff, reduceCtorEq, Int.reduceGT, Int.reduceLT, Int.reduceLE, Int.reduceGE, Int.reduceEq, Int.reduceToNat, Int.reduceAdd, Int.reduceSub, Int.reduceNeg, Int.reduceMul, Nat.reduceLeDiff, tys, hL, rw1.idx, rw1.cell, rw2.idx, rw2.cell, hcellS, z4, eq_self]
          exact ih2 (j + 1) (by omega) (by omega) _ _ (by simp only [flg_z, flg_n, flg_c, ↓reduceIte, Nat.reduceEqDiff, Nat.reduceAdd]; repeat (first | exact FLe.nil | apply FLe.junk | apply FLe.same)) (HLe.refl _)
        · have hrb2 := hb.frz.app tt
          obtain ⟨v10, t6, c8, ⟨z, rfl, hz⟩, rfl⟩ := at_ok (frz h ++ tt) b cb hrb2 (by omega) 2 256 (by omega) (by omega)
          refine acall.dp c8 (by simp (maxSteps := 4000000) (disch := (first | omega | (simp only [List.length_append, List.length_cons, List.length_nil, List.length_map, List.length_set]; omega))) only [wk, wb, run_block, run_seq, cnd_dec, cnd_ndec, hset_c0, wBuiltin, wAppend, wCopy, wClear, dsOf, ev, aput, aPick, aExtract, aBuiltin, aZeros, ↓reduceIte, Nat.reduceAdd, Nat.reduceSub, Nat.reduceMul, Nat.reduceEqDiff, reduceCtorEq, Int.reduceGT, Int.reduceLT, Int.reduceLE, Int.reduceGE, Int.reduceEq, Int.reduceToNat, Int.reduceAdd, Int.reduceSub, Int.reduceNeg, Int.reduceMul, Nat.reduceLeDiff, tys]) ?_
          have hconv := conv1 (frz h ++ (tt ++ [⟨[.int .u8 (z : Int)], 5, true⟩])) (L + tt.length) z hz (by simp (maxSteps := 4000000) (disch := (first | omega | (simp only [List.length_append, List.length_cons, List.length_nil, List.length_map, List.length_set]; omega))) only [wk, wb, run_block, run_seq, cnd_dec, cnd_ndec, hset_c0, wBuiltin, wAppend, wCopy, wClear, dsOf, ev, aput, aPick, aExtract, aBuiltin, aZeros, ↓reduceIte, Nat.reduceAdd, Nat.reduceSub, Nat.reduceMul, Nat.reduceEqDiff, reduceCtorEq, Int.reduceGT, Int.reduceLT, Int.reduceLE, Int.reduceGE, Int.reduceEq, Int.reduceToNat, Int.reduceAdd, Int.reduceSub, Int.reduceNeg, Int.reduceMul, Nat.reduceLeDiff, tys, hLf])
          have q1 : ((i : Int) + 1).toNat = i + 1 := by omega
          have hdl : (T.drop (i + 1)).length = T.length - (i + 1) := by simp
          have hbl : (T.take i ++ [UInt8.ofNat z] ++ T.drop (i + 1)).length = T.length := by simp; omega
          simp (maxSteps := 4000000) (disch := (first | omega | (simp only [List.length_append, List.length_cons, List.length_nil, List.length_map, List.length_set]; omega))) only [wk, wb, run_block, run_seq, cnd_dec, cnd_ndec, hset_c0, wBuiltin, wAppend, wCopy, wClear, dsOf, ev, aput, aPick, aExtract, aBuiltin, aZeros, ↓reduceIte, Nat.reduceAdd, Nat.reduceSub, Nat.reduceMul, Nat.reduceEqDiff, reduceCtorEq, Int.reduceGT, Int.reduceLT, Int.reduceLE, Int.reduceGE, Int.reduceEq, Int.reduceToNat, Int.reduceAdd, Int.reduceSub, Int.reduceNeg, Int.reduceMul, Nat.reduceLeDiff, tys, hL, hconv, q1]
          generalize hbe : T.take i ++ UInt8.ofNat z :: T.drop (i + 1) = bent
          have hbent : bent.length = T.length := by rw [← hbe, ← hbl]; simp
          obtain ⟨v11, t7, c9, w2, other, m, rfl, r3, hrec2, hll2⟩ := recover_ok (frz h ++ (tt ++ [⟨[.int .u8 (z : Int)], 5, true⟩])) bent (by omega)
          refine acall.p c9 ?_
          simp (maxSteps := 4000000) (disch := (first | omega | (simp only [List.length_append, List.length_cons, List.length_nil, List.length_map, List.length_set]; omega))) only [wk, wb, run_block, run_seq, cnd_dec, cnd_ndec, hset_c0, wBuiltin, wAppend, wCopy, wClear, dsOf, ev, aput, aPick, aExtract, aBuiltin, aZeros, ↓reduceIte, Nat.reduceAdd, Nat.reduceSub, Nat.reduceMul, Nat.reduceEqDiff, reduceCtorEq, Int.reduceGT, Int.reduceLT, Int.reduceLE, Int.reduceGE, Int.reduceEq, Int.reduceToNat, Int.reduceAdd, Int.reduceSub, Int.reduceNeg, Int.reduceMul, Nat.reduceLeDiff, tys, hL]
          have hju2 : jour 0 other = bent.take m := by rw [← hrec2.eq]
          have hm := hrec2.le
          obtain ⟨v12, t8, c10, rfl⟩ := journal_ok (frz h ++ (tt ++ ⟨[.int .u8 (z : Int)], 5, true⟩ :: t7)) w2 other (by simpa using r3) hrec2.nl (by rw [hju2]; simp; omega) hll2
          refine acall.p c10 ?_
          rw [hju2]
          have hfin := (journal_law lines hnl i (by rw [hT]; omega) list n (by rw [hT]; exact hrec) (UInt8.ofNat z) other m (by rw [hT, hbe]; exact hrec2)).2.2.2.2.1
          have z5 : ((n : Int) ≤ (m : Int)) = True := eq_true (by omega)
          have z6 : ((m : Int) ≤ (bent.length : Int)) = True := eq_true (by omega)
          simp (maxSteps := 4000000) (disch := (first | omega | (simp only [List.length_append, List.length_cons, List.length_nil, List.length_map, List.length_set]; omega))) only [wk, wb, run_block, run_seq, cnd_dec, cnd_ndec, hset_c0, wBuiltin, wAppend, wCopy, wClear, dsOf, ev, aput, aPick, aExtract, aBuiltin, aZeros, ↓reduceIte, Nat.reduceAdd, Nat.reduceSub, Nat.reduceMul, Nat.reduceEqDiff, reduceCtorEq, Int.reduceGT, Int.reduceLT, Int.reduceLE, Int.reduceGE, Int.reduceEq, Int.reduceToNat, Int.reduceAdd, Int.reduceSub, Int.reduceNeg, Int.reduceMul, Nat.reduceLeDiff, tys, hL, z5, z6, eq_self]
          exact ⟨_, rfl⟩
end Go.Proofs.YtmjalehlcbfljaaDoor

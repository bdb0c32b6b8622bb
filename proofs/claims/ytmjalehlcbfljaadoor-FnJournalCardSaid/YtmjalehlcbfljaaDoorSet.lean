/- Setting a stream in a lab keeps it a lab of drawn names. -/
import Derived.Test.YtmjalehlcbfljaaDoorLab
set_option linter.unusedSectionVars false
set_option linter.defProp false
set_option linter.unusedVariables false
set_option linter.unusedSimpArgs false
set_option linter.unnecessarySimpa false
namespace Go.Proofs.YtmjalehlcbfljaaDoor
open Go Go.AM
set_option maxRecDepth 8000
/-- Where a name comes in. -/
def atL : List (List UInt8) → List UInt8 → Nat
  | [], _ => 0
  | a :: r, nm => if Op.bytesLess a nm = true then atL r nm + 1 else 0
theorem atL_le (names : List (List UInt8)) (nm : List UInt8) : atL names nm ≤ names.length := by
  induction names with
  | nil => simp [atL]
  | cons a r ih => simp only [atL]; split <;> simp <;> omega
theorem atL_lt (names : List (List UInt8)) (nm : List UInt8) (j : Nat) (hj : j < atL names nm) : Op.bytesLess (names.getD j []) nm = true := by
  induction names generalizing j with
  | nil => simp [atL] at hj
  | cons a r ih =>
    simp only [atL] at hj
    split at hj
    · rename_i h
      cases j with
      | zero => simpa using h
      | succ j => simpa using ih j (by omega)
    · omega
theorem atL_at (names : List (List UInt8)) (nm : List UInt8) (h : atL names nm < names.length) : Op.bytesLess (names.getD (atL names nm) []) nm = false := by
  induction names with
  | nil => simp [atL] at h
  | cons a r ih =>
    simp only [atL] at h ⊢
    split at h
    · rename_i hh; rw [if_pos hh]; simpa using ih (by simpa using h)
    · rename_i hh; rw [if_neg hh]; simpa using hh
theorem atL_eq (names : List (List UInt8)) (nm : List UInt8) (k : Nat) (hk : k ≤ names.length) (h1 : ∀ j, j < k → Op.bytesLess (names.getD j []) nm = true) (h2 : k < names.length → Op.bytesLess (names.getD k []) nm = false) : atL names nm = k := by
  rcases Nat.lt_trichotomy (atL names nm) k with h | h | h
  · have e1 := h1 _ h
    rw [atL_at names nm (by omega)] at e1; cases e1
  · exact h
  · have e1 := atL_lt names nm k h
    have := atL_le names nm
    rw [h2 (by omega)] at e1; cases e1

theorem set_ok (h : AHeap) (L q : Nat) (names : List (List UInt8)) (sc : List Value) (nm : List UInt8) (a b c d e f g : Value) (hx : isCell a = true ∧ isCell b = true ∧ isCell c = true ∧ isCell d = true ∧ isCell e = true ∧ isCell f = true ∧ isCell g = true)
    (hl : LabAt h L q names sc) (hn : names.length < 1000000) (hnm : nm.length < 4611686018427387904) (hLh : L ≤ h.length) :
    ∃ v h', AC Tryd.prog 28 [ptr q, str nm, .agg #[a, b, c, d, e, f, g]] h v h' ∧ ∃ (bo : Bool) (names' : List (List UInt8)) (sc' : List Value), v = .bool bo ∧ LabAt h' L q names' sc' ∧ Abv L h h' ∧ names'.length ≤ names.length + 1 ∧ ∀ x ∈ names', x ∈ names ∨ x = nm := by
  obtain ⟨x1, x2, x3, x4, x5, x6, x7⟩ := hx
  have hl0 := hl
  obtain ⟨nv, sv, ho, hro, hso, hown, hq⟩ := hl
  have hrd := rd_of ho
  have hqL := at_lt ho
  refine AC.walk Tryd.func28 rfl (by decide) (by kernel_rfl) mixed ?_
  simp (maxSteps := 4000000) (disch := (first | omega | (simp only [List.length_append, List.length_cons, List.length_nil, List.length_map, List.length_set]; omega))) only [wk, wb, run_block, run_seq, cnd_dec, cnd_ndec, hset_c0, wBuiltin, wAppend, wCopy, wClear, dsOf, ev, aput, aPick, aExtract, aBuiltin, aZeros, ↓reduceIte, Nat.reduceAdd, Nat.reduceSub, Nat.reduceMul, Nat.reduceEqDiff, reduceCtorEq, Int.reduceGT, Int.reduceLT, Int.reduceLE, Int.reduceGE, Int.reduceEq, Int.reduceToNat, Int.reduceAdd, Int.reduceSub, Int.reduceNeg, Int.reduceMul, Nat.reduceLeDiff, tys, Tryd.f28, ptr, x1, x2, x3, x4, x5, x6, x7]
  obtain ⟨v, t, hc, ⟨k, rfl, hk⟩, rfl⟩ := find_ok (h ++ [⟨[a, b, c, d, e, f, g], 67, true⟩]) L q names sc nm (hl0.app _) hn
  refine acall.p hc ?_
  have hrb := rd_new h ⟨[a, b, c, d, e, f, g], 67, true⟩ []
  simp (maxSteps := 4000000) (disch := (first | omega | (simp only [List.length_append, List.length_cons, List.length_nil, List.length_map, List.length_set]; omega))) only [wk, wb, run_block, run_seq, cnd_dec, cnd_ndec, hset_c0, wBuiltin, wAppend, wCopy, wClear, dsOf, ev, aput, aPick, aExtract, aBuiltin, aZeros, ↓reduceIte, Nat.reduceAdd, Nat.reduceSub, Nat.reduceMul, Nat.reduceEqDiff, reduceCtorEq, Int.reduceGT, Int.reduceLT, Int.reduceLE, Int.reduceGE, Int.reduceEq, Int.reduceToNat, Int.reduceAdd, Int.reduceSub, Int.reduceNeg, Int.reduceMul, Nat.reduceLeDiff, tys, hrd, hrb]
  refine ⟨fun hk0 => ?_, fun hk0 => ?_⟩
  · have hkn : 0 ≤ k ∧ k < (names.length : Int) := by rcases hk with h | h <;> omega
    obtain ⟨h0, _⟩ | ⟨hn0, id, rfl, hidL, hob⟩ := hso.sh
    · omega
    · have hlen := hso.len
      have hob2 := at_app hob [⟨[a, b, c, d, e, f, g], 67, true⟩]
      have hkm : k.toNat * 7 + 7 ≤ sc.length := by omega
      simp (maxSteps := 4000000) (disch := (first | omega | (simp only [List.length_append, List.length_cons, List.length_nil, List.length_map, List.length_set]; omega))) only [wk, wb, run_block, run_seq, cnd_dec, cnd_ndec, hset_c0, wBuiltin, wAppend, wCopy, wClear, dsOf, ev, aput, aPick, aExtract, aBuiltin, aZeros, ↓reduceIte, Nat.reduceAdd, Nat.reduceSub, Nat.reduceMul, Nat.reduceEqDiff, reduceCtorEq, Int.reduceGT, Int.reduceLT, Int.reduceLE, Int.reduceGE, Int.reduceEq, Int.reduceToNat, Int.reduceAdd, Int.reduceSub, Int.reduceNeg, Int.reduceMul, Nat.reduceLeDiff, tys, hrd, hrb, hset_of hob2, x1, x2, x3, x4, x5, x6, x7]
      have hid : id < h.length := at_lt hob
      have hqid : q ≠ id := fun e => (hown hn0).2.1 e.symm
      have hnid : sid nv ≠ id := fun e => (hown hn0).2.2 e.symm
      rw [if_pos hkm]
      simp (maxSteps := 4000000) (disch := (first | omega | (simp only [List.length_append, List.length_cons, List.length_nil, List.length_map, List.length_set]; omega))) only [wk, wb, run_block, run_seq, cnd_dec, cnd_ndec, hset_c0, wBuiltin, wAppend, wCopy, wClear, dsOf, ev, aput, aPick, aExtract, aBuiltin, aZeros, ↓reduceIte, Nat.reduceAdd, Nat.reduceSub, Nat.reduceMul, Nat.reduceEqDiff, reduceCtorEq, Int.reduceGT, Int.reduceLT, Int.reduceLE, Int.reduceGE, Int.reduceEq, Int.reduceToNat, Int.reduceAdd, Int.reduceSub, Int.reduceNeg, Int.reduceMul, Nat.reduceLeDiff, tys]
      refine ⟨(by (repeat' apply And.intro) <;> first | exact Or.inl (by decide +kernel) | exact Or.inr ⟨by simp, by simp; omega⟩ | exact Or.inr ⟨by simp; omega, by simp; omega⟩ | exact Or.inr ⟨by simp; omega, by simp⟩ | exact Or.inr ⟨by simp, by simp⟩), true, names, sc.take (k.toNat * 7) ++ a :: b :: c :: d :: e :: f :: g :: sc.drop (k.toNat * 7 + 7), rfl, ⟨nv, .slice (some ⟨id, 0, none⟩) names.length big, ?_, ?_, ⟨?_, .inr ⟨hn0, id, rfl, hidL, List.getElem?_set_self (by rw [List.length_append]; omega)⟩, ?_⟩, hown, hq⟩, (Abv.app h _ hLh).trans (Abv.set _ _ hidL), by omega, fun x hx => .inl hx⟩
      · rw [List.getElem?_set_ne (Ne.symm hqid)]; exact at_app ho _
      · exact (hro.app [⟨[a, b, c, d, e, f, g], 67, true⟩]).keep (by simp) (fun hn => by rw [List.getElem?_set_ne (Ne.symm hnid)])
      · simp; omega
      · intro v hv
        have hv2 : v ∈ sc ∨ v = a ∨ v = b ∨ v = c ∨ v = d ∨ v = e ∨ v = f ∨ v = g := by
          simp only [List.mem_append, List.mem_cons] at hv
          rcases hv with hv | hv
          · exact .inl (List.mem_of_mem_take hv)
          · rcases hv with h | h | h | h | h | h | h | h
            · simp [h]
            · simp [h]
            · simp [h]
            · simp [h]
            · simp [h]
            · simp [h]
            · simp [h]
            · exact .inl (List.mem_of_mem_drop h)
        rcases hv2 with h | rfl | rfl | rfl | rfl | rfl | rfl | rfl
        · exact hso.cells v h
        all_goals assumption
  · have hnot : nm ∉ names := by rcases hk with h | h; exact h.2; omega
    obtain ⟨v, t, hc2, rfl, rfl⟩ := isName_ok (h ++ [⟨[a, b, c, d, e, f, g], 67, true⟩]) nm hnm
    refine acall.p hc2 ?_
    have hnr := hro.row
    have hnb := hnr.app [⟨[a, b, c, d, e, f, g], 67, true⟩]
    cases hin : isName nm with
    | false =>
      simp (maxSteps := 4000000) (disch := (first | omega | (simp only [List.length_append, List.length_cons, List.length_nil, List.length_map, List.length_set]; omega))) only [wk, wb, run_block, run_seq, cnd_dec, cnd_ndec, hset_c0, wBuiltin, wAppend, wCopy, wClear, dsOf, ev, aput, aPick, aExtract, aBuiltin, aZeros, ↓reduceIte, Nat.reduceAdd, Nat.reduceSub, Nat.reduceMul, Nat.reduceEqDiff, reduceCtorEq, Int.reduceGT, Int.reduceLT, Int.reduceLE, Int.reduceGE, Int.reduceEq, Int.reduceToNat, Int.reduceAdd, Int.reduceSub, Int.reduceNeg, Int.reduceMul, Nat.reduceLeDiff, tys]
      exact ⟨false, names, sc, rfl, hl0.app _, Abv.app h _ hLh, by omega, fun x hx => .inl hx⟩
    | true =>
      simp (maxSteps := 4000000) (disch := (first | omega | (simp only [List.length_append, List.length_cons, List.length_nil, List.length_map, List.length_set]; omega))) only [wk, wb, run_seq, cnd_dec, cnd_ndec, hset_c0, wBuiltin, wAppend, wCopy, wClear, dsOf, ev, aput, aPick, aExtract, aBuiltin, aZeros, ↓reduceIte, Nat.reduceAdd, Nat.reduceSub, Nat.reduceMul, Nat.reduceEqDiff, reduceCtorEq, Int.reduceGT, Int.reduceLT, Int.reduceLE, Int.reduceGE, Int.reduceEq, Int.reduceToNat, Int.reduceAdd, Int.reduceSub, Int.reduceNeg, Int.reduceMul, Nat.reduceLeDiff, tys, hrd, hrb, hnr.alen]
      refine ⟨fun h6 => ⟨false, names, sc, rfl, hl0.app _, Abv.app h _ hLh, by omega, fun x hx => .inl hx⟩, fun h6 => ?_⟩
      refine run_cut (α := Unit) 98 (fun _ => [(0, ptr q), (1, str nm), (5, ptr h.length), (8, .int .i64 (atL names nm : Nat))]) (fun _ => h ++ [⟨[a, b, c, d, e, f, g], 67, true⟩]) (fun _ => True) ?_ ?_
      · simp (maxSteps := 4000000) (disch := (first | omega | (simp only [List.length_append, List.length_cons, List.length_nil, List.length_map, List.length_set]; omega))) only [wk, wb, run_block, run_seq, cnd_dec, cnd_ndec, hset_c0, wBuiltin, wAppend, wCopy, wClear, dsOf, ev, aput, aPick, aExtract, aBuiltin, aZeros, ↓reduceIte, Nat.reduceAdd, Nat.reduceSub, Nat.reduceMul, Nat.reduceEqDiff, reduceCtorEq, Int.reduceGT, Int.reduceLT, Int.reduceLE, Int.reduceGE, Int.reduceEq, Int.reduceToNat, Int.reduceAdd, Int.reduceSub, Int.reduceNeg, Int.reduceMul, Nat.reduceLeDiff, tys]
        refine RL.wf (α := Nat) (fun i => names.length - i) (fun i => flg 0 98 [(0, ptr q), (1, str nm), (5, ptr h.length), (8, .int .i64 (i : Int))]) (fun _ => h ++ [⟨[a, b, c, d, e, f, g], 67, true⟩])
          (fun i => i ≤ names.length ∧ ∀ j, j < i → Op.bytesLess (names.getD j []) nm = true) ?_ 0 ⟨by omega, fun j hj => by omega⟩ _ _ (by simp only [flg_z, flg_n, flg_c, ↓reduceIte, Nat.reduceEqDiff, Nat.reduceAdd]; repeat (first | exact FLe.nil | apply FLe.junk | apply FLe.same)) (HLe.refl _)
        rintro i ⟨i1, i2⟩ ih
        refine RL.round ?_
        have hstop : (i < names.length → Op.bytesLess (names.getD i []) nm = false) → atL names nm = i := fun h => atL_eq names nm i i1 i2 h
        simp (maxSteps := 4000000) (disch := (first | omega | (simp only [List.length_append, List.length_cons, List.length_nil, List.length_map, List.length_set]; omega))) only [wk, wb, run_block, run_seq, cnd_dec, cnd_ndec, hset_c0, wBuiltin, wAppend, wCopy, wClear, dsOf, ev, aput, aPick, aExtract, aBuiltin, aZeros, ↓reduceIte, Nat.reduceAdd, Nat.reduceSub, Nat.reduceMul, Nat.reduceEqDiff, reduceCtorEq, Int.reduceGT, Int.reduceLT, Int.reduceLE, Int.reduceGE, Int.reduceEq, Int.reduceToNat, Int.reduceAdd, Int.reduceSub, Int.reduceNeg, Int.reduceMul, Nat.reduceLeDiff, tys, ptr, hrd, hrb, hnr.alen]
        refine ⟨fun hi => ?_, fun hi => ?_⟩
        · have hi' : i < names.length := by omega
          cases hb : Op.bytesLess (names.getD i []) nm with
          | true =>
            simp (maxSteps := 4000000) (disch := (first | omega | (simp only [List.length_append, List.length_cons, List.length_nil, List.length_map, List.length_set]; omega))) only [wk, wb, run_block, run_seq, cnd_dec, cnd_ndec, hset_c0, wBuiltin, wAppend, wCopy, wClear, dsOf, ev, aput, aPick, aExtract, aBuiltin, aZeros, ↓reduceIte, Nat.reduceAdd, Nat.reduceSub, Nat.reduceMul, Nat.reduceEqDiff, reduceCtorEq, Int.reduceGT, Int.reduceLT, Int.reduceLE, Int.reduceGE, Int.reduceEq, Int.reduceToNat, Int.reduceAdd, Int.reduceSub, Int.reduceNeg, Int.reduceMul, Nat.reduceLeDiff, tys, ptr, hrd, hrb, hnb.idx, hnb.cell, names_get, hb]
            exact ih (i + 1) (by omega) ⟨by omega, fun j hj => by
              rcases Nat.lt_or_ge j i with h | h
              · exact i2 j h
              · rw [show j = i by omega]; exact hb⟩ _ _ (by simp only [flg_z, flg_n, flg_c, ↓reduceIte, Nat.reduceEqDiff, Nat.reduceAdd]; repeat (first | exact FLe.nil | apply FLe.junk | apply FLe.same)) (HLe.refl _)
          | false =>
            simp (maxSteps := 4000000) (disch := (first | omega | (simp only [List.length_append, List.length_cons, List.length_nil, List.length_map, List.length_set]; omega))) only [wk, wb, run_block, run_seq, cnd_dec, cnd_ndec, hset_c0, wBuiltin, wAppend, wCopy, wClear, dsOf, ev, aput, aPick, aExtract, aBuiltin, aZeros, ↓reduceIte, Nat.reduceAdd, Nat.reduceSub, Nat.reduceMul, Nat.reduceEqDiff, reduceCtorEq, Int.reduceGT, Int.reduceLT, Int.reduceLE, Int.reduceGE, Int.reduceEq, Int.reduceToNat, Int.reduceAdd, Int.reduceSub, Int.reduceNeg, Int.reduceMul, Nat.reduceLeDiff, tys, ptr, hrd, hrb, hnb.idx, hnb.cell, names_get, hb]
            rw [hstop fun _ => hb]
            exact ⟨(), (by repeat (first | exact FrI.nil _ rfl | refine FrI.cons rfl ?_))⟩
        · rw [hstop fun h => by omega]
          exact ⟨(), (by repeat (first | exact FrI.nil _ rfl | refine FrI.cons rfl ?_))⟩
      · rintro - fr - hF
        rw [hF.lit]; simp only [flx_z, flx_n, flx_c, ↓reduceIte, Nat.reduceEqDiff, Nat.reduceAdd]
        have hat := atL_le names nm
        generalize atL names nm = at_ at *
        have hsr := hso.row
        have hsb := hsr.app [⟨[a, b, c, d, e, f, g], 67, true⟩]
        have hH : h.length = h.length := rfl
        have hcl : ∀ v ∈ names.map str, isCell v = true := by intro v hv; obtain ⟨x, _, rfl⟩ := List.mem_map.1 hv; rfl
        simp (maxSteps := 4000000) (disch := (first | omega | (simp only [List.length_append, List.length_cons, List.length_nil, List.length_map, List.length_set]; omega))) only [wk, wb, run_block, run_seq, cnd_dec, cnd_ndec, hset_c0, wBuiltin, wAppend, wCopy, wClear, dsOf, ev, aput, aPick, aExtract, aBuiltin, aZeros, ↓reduceIte, Nat.reduceAdd, Nat.reduceSub, Nat.reduceMul, Nat.reduceEqDiff, reduceCtorEq, Int.reduceGT, Int.reduceLT, Int.reduceLE, Int.reduceGE, Int.reduceEq, Int.reduceToNat, Int.reduceAdd, Int.reduceSub, Int.reduceNeg, Int.reduceMul, Nat.reduceLeDiff, tys, ptr, hrd, hrb, hnb.slice_h, hsb.slice_h]
        -- names[:at]
        obtain ⟨v1, t1, k1, o1, p1⟩ := (Own.empty (h := h ++ [⟨[a, b, c, d, e, f, g], 67, true⟩, ⟨[], 9, true⟩]) (L := h.length) (id := h.length + 1) 1 9 (by omega) (by simp)).addAny (P := Tryd.prog) rfl (ty := 24) se24 ti9 rfl rfl
          ((hnr.slc (lo := 0) (hi := at_) (by omega) hat).app _) ((hro.slcRdb (lo := 0) (hi := at_) (by omega) hat).app _) (fun v hv => hcl v (by simp at hv; exact List.mem_of_mem_take hv)) (by simp only; omega) (by omega)
        rw [k1]
        have b1 : t1[0]? = some ⟨[a, b, c, d, e, f, g], 67, true⟩ := by rw [p1.at_ 0 (by simp) (fun h => by omega)]; rfl
        have q1 := p1.len; have r1 := p1.idr
        simp only [List.length_cons, List.length_nil] at q1 r1
        simp (maxSteps := 4000000) (disch := (first | omega | (simp only [List.length_append, List.length_cons, List.length_nil, List.length_map, List.length_set]; omega))) only [wk, wb, run_block, run_seq, cnd_dec, cnd_ndec, hset_c0, wBuiltin, wAppend, wCopy, wClear, dsOf, ev, aput, aPick, aExtract, aBuiltin, aZeros, ↓reduceIte, Nat.reduceAdd, Nat.reduceSub, Nat.reduceMul, Nat.reduceEqDiff, reduceCtorEq, Int.reduceGT, Int.reduceLT, Int.reduceLE, Int.reduceGE, Int.reduceEq, Int.reduceToNat, Int.reduceAdd, Int.reduceSub, Int.reduceNeg, Int.reduceMul, Nat.reduceLeDiff, tys]
        -- the new name
        obtain ⟨v2, t2, k2, o2, p2⟩ := o1.push1 (P := Tryd.prog) rfl (ty := 24) (zs := [str nm]) se24 ti9 rfl rfl rfl (by simp; rfl) (by simp only; omega) (by omega)
        rw [k2]
        have q2 := p2.len; have r2 := p2.idr
        have s1 : 0 < at_ → h.length + 0 ≠ sid v1 := fun hn => by
          rcases r1 with h1 | h1
          · rw [h1]; simp only [sid]; omega
          · omega
        have b2 : t2[0]? = some ⟨[a, b, c, d, e, f, g], 67, true⟩ := by rw [p2.at_ 0 (by omega) (by simpa using s1), b1]
        simp (maxSteps := 4000000) (disch := (first | omega | (simp only [List.length_append, List.length_cons, List.length_nil, List.length_map, List.length_set]; omega))) only [wk, wb, run_block, run_seq, cnd_dec, cnd_ndec, hset_c0, wBuiltin, wAppend_empty, wCopy, wClear, dsOf, ev, aput, aPick, aExtract, aBuiltin, aZeros, ↓reduceIte, Nat.reduceAdd, Nat.reduceSub, Nat.reduceMul, Nat.reduceEqDiff, reduceCtorEq, Int.reduceGT, Int.reduceLT, Int.reduceLE, Int.reduceGE, Int.reduceEq, Int.reduceToNat, Int.reduceAdd, Int.reduceSub, Int.reduceNeg, Int.reduceMul, Nat.reduceLeDiff, tys, ptr, hrd, hsr.slice_h]
        -- the streams ahead
        obtain ⟨v3, t3, k3, o3, p3⟩ := (Own.empty (h := h ++ (t2 ++ [⟨[], 67, true⟩])) (L := h.length) (id := h.length + t2.length) 7 67 (by omega) (by simp)).addAny (P := Tryd.prog) rfl (ty := 26) se26 ti67 rfl rfl
          ((hsr.slc (lo := 0) (hi := at_) (by omega) hat).app _) ((hso.slcRdb (lo := 0) (hi := at_) (by omega) hat).app _) (fun v hv => hso.cells v (by simp at hv; exact List.mem_of_mem_take hv)) (by simp only; omega) (by omega)
        rw [k3]
        have q3 := p3.len; have r3 := p3.idr
        simp only [List.length_append, List.length_cons, List.length_nil] at q3 r3
        have b3 : t3[0]? = some ⟨[a, b, c, d, e, f, g], 67, true⟩ := by rw [p3.at_ 0 (by simp) (fun h => by omega), List.getElem?_append_left (by omega), b2]
        have s3 : h.length + 1 ≤ sid v3 := by
          rcases r3 with h1 | h1
          · rw [h1]; simp only [sid]; omega
          · omega
        have hb3 := rd_t0 (h := h) b3
        have hw3 := wAppend_or v3 (.slice (some ⟨h.length + t3.length, 0, none⟩) 1 1)
        have hi3 := idOf_sid o3
        simp (maxSteps := 4000000) (disch := (first | omega | (simp only [List.length_append, List.length_cons, List.length_nil, List.length_map, List.length_set]; omega))) only [wk, wb, run_block, run_seq, cnd_dec, cnd_ndec, hset_c0, wBuiltin, wAppend_empty, wCopy, wClear, dsOf, ev, aput, aPick, aExtract, aBuiltin, aZeros, ↓reduceIte, Nat.reduceAdd, Nat.reduceSub, Nat.reduceMul, Nat.reduceEqDiff, reduceCtorEq, Int.reduceGT, Int.reduceLT, Int.reduceLE, Int.reduceGE, Int.reduceEq, Int.reduceToNat, Int.reduceAdd, Int.reduceSub, Int.reduceNeg, Int.reduceMul, Nat.reduceLeDiff, tys, hb3, x1, x2, x3, x4, x5, x6, x7]
        refine ⟨?_, ?_⟩
        · rcases hw3 with h | h
          · rw [h]; simp (maxSteps := 4000000) (disch := (first | omega | (simp only [List.length_append, List.length_cons, List.length_nil, List.length_map, List.length_set]; omega))) only [wk, wb, run_block, run_seq, cnd_dec, cnd_ndec, hset_c0, wBuiltin, wAppend, wCopy, wClear, dsOf, ev, aput, aPick, aExtract, aBuiltin, aZeros, ↓reduceIte, Nat.reduceAdd, Nat.reduceSub, Nat.reduceMul, Nat.reduceEqDiff, reduceCtorEq, Int.reduceGT, Int.reduceLT, Int.reduceLE, Int.reduceGE, Int.reduceEq, Int.reduceToNat, Int.reduceAdd, Int.reduceSub, Int.reduceNeg, Int.reduceMul, Nat.reduceLeDiff, tys]
          · rw [h]; simp (maxSteps := 4000000) (disch := (first | omega | (simp only [List.length_append, List.length_cons, List.length_nil, List.length_map, List.length_set]; omega))) only [wk, wb, run_block, run_seq, cnd_dec, cnd_ndec, hset_c0, wBuiltin, wAppend, wCopy, wClear, dsOf, ev, aput, aPick, aExtract, aBuiltin, aZeros, ↓reduceIte, Nat.reduceAdd, Nat.reduceSub, Nat.reduceMul, Nat.reduceEqDiff, reduceCtorEq, Int.reduceGT, Int.reduceLT, Int.reduceLE, Int.reduceGE, Int.reduceEq, Int.reduceToNat, Int.reduceAdd, Int.reduceSub, Int.reduceNeg, Int.reduceMul, Nat.reduceLeDiff, tys]
            exact (by (repeat' apply And.intro) <;> first | exact Or.inl (by decide +kernel) | exact Or.inr ⟨by simp, by simp; omega⟩ | exact Or.inr ⟨by simp; omega, by simp; omega⟩ | exact Or.inr ⟨by simp; omega, by simp⟩ | exact Or.inr ⟨by simp, by simp⟩)
        -- the new stream
        have hc7 : ∀ v ∈ [a, b, c, d, e, f, g], isCell v = true := by
          intro v hv
          simp only [List.mem_cons, List.not_mem_nil, or_false] at hv
          rcases hv with rfl | rfl | rfl | rfl | rfl | rfl | rfl <;> assumption
        obtain ⟨v4, t4, k4, o4, p4⟩ := o3.push1 (P := Tryd.prog) rfl (ty := 26) (zs := [a, b, c, d, e, f, g]) se26 ti67 rfl rfl rfl hc7 (by simp only; omega) (by omega)
        rw [k4]
        have q4 := p4.len; have r4 := p4.idr
        have d23 : sid v2 ≠ sid v3 := by
          rcases r3 with h1 | h1
          · rw [h1]; show sid v2 ≠ h.length + t2.length; omega
          · omega
        have o2' := ((p4.own (p3.own (o2.appR _) (fun h => by omega)) (fun _ _ => d23)).eqL (m := at_ + 1) (ys := (names.take at_ ++ [nm]).map str) (by omega) (by simp [List.map_take]))
        have o4' := o4.eqL (m := at_ + 1) (ys := sc.take (at_ * 7) ++ [a, b, c, d, e, f, g]) (by omega) (by simp)
        simp (maxSteps := 4000000) (disch := (first | omega | (simp only [List.length_append, List.length_cons, List.length_nil, List.length_map, List.length_set]; omega))) only [wk, wb, run_block, run_seq, cnd_dec, cnd_ndec, hset_c0, wBuiltin, wAppend_empty, wCopy, wClear, dsOf, ev, aput, aPick, aExtract, aBuiltin, aZeros, ↓reduceIte, Nat.reduceAdd, Nat.reduceSub, Nat.reduceMul, Nat.reduceEqDiff, reduceCtorEq, Int.reduceGT, Int.reduceLT, Int.reduceLE, Int.reduceGE, Int.reduceEq, Int.reduceToNat, Int.reduceAdd, Int.reduceSub, Int.reduceNeg, Int.reduceMul, Nat.reduceLeDiff, tys, ptr, hrd, hnr.slice_l]
        -- the names behind
        obtain ⟨v5, t5, k5, o5, p5⟩ := o2'.addAny (P := Tryd.prog) rfl (ty := 24) se24 ti9 rfl rfl
          ((hnr.slc (lo := at_) (hi := names.length) hat (Nat.le_refl _)).app _) ((hro.slcRdb (lo := at_) (hi := names.length) hat (Nat.le_refl _)).app _) (fun v hv => hcl v (List.mem_of_mem_drop (List.mem_of_mem_take hv))) (by simp only; omega) (by omega)
        rw [k5]
        have q5 := p5.len; have r5 := p5.idr
        have d54 : sid v5 ≠ sid v4 := by
          rcases r5 with h1 | h1
          · rw [h1]; omega
          · omega
        have o4b := p5.own o4' (fun _ _ => by omega)
        have e5 : sid v5 < h.length + t5.length ∧ h.length ≤ sid v5 := by
          rcases r5 with h1 | h1
          · rw [h1]; omega
          · omega
        obtain ⟨id5, f5, g5, _⟩ := o5.slice (by omega)
        have hv5 : isVal v5 = true := by rw [f5]; rfl
        have hc5 : v5.cells = #[v5] := by rw [f5]; rfl
        simp (maxSteps := 4000000) (disch := (first | omega | (simp only [List.length_append, List.length_cons, List.length_nil, List.length_map, List.length_set]; omega))) only [wk, wb, run_block, run_seq, cnd_dec, cnd_ndec, hset_c0, wBuiltin, wAppend_empty, wCopy, wClear, dsOf, ev, aput, aPick, aExtract, aBuiltin, aZeros, ↓reduceIte, Nat.reduceAdd, Nat.reduceSub, Nat.reduceMul, Nat.reduceEqDiff, reduceCtorEq, Int.reduceGT, Int.reduceLT, Int.reduceLE, Int.reduceGE, Int.reduceEq, Int.reduceToNat, Int.reduceAdd, Int.reduceSub, Int.reduceNeg, Int.reduceMul, Nat.reduceLeDiff, tys, ptr, hset_of (at_app ho t5), hv5, hc5, set_left hqL, rd_set_self hqL, hsr.slice_l]
        -- the streams behind
        have hg : (h.set q ⟨[v5, sv], 28, true⟩).length = h.length := by simp
        have hsq := (Only.set q h ⟨[v5, sv], 28, true⟩).row hsr (fun hn => (hown hn).2.1)
        have hoq : Own (h.set q ⟨[v5, sv], 28, true⟩) L sv names.length 7 67 sc := hso.keep (by simp) fun hn => List.getElem?_set_ne (Ne.symm (hown hn).2.1)
        obtain ⟨v6, t6, k6, o6, p6⟩ := (o4b.base (h' := h.set q ⟨[v5, sv], 28, true⟩) hg).addAny (P := Tryd.prog) hg (ty := 26) se26 ti67 rfl rfl
          ((hsq.slc (lo := at_) (hi := names.length) hat (Nat.le_refl _)).app _) ((hoq.slcRdb (lo := at_) (hi := names.length) hat (Nat.le_refl _)).app _) (fun v hv => hso.cells v (List.mem_of_mem_drop (List.mem_of_mem_take hv))) (by simp only; omega) (by omega)
        rw [k6]
        have r6 := p6.idr
        obtain ⟨id6, f6, g6, _⟩ := o6.slice (by omega)
        have hv6 : isVal v6 = true := by rw [f6]; rfl
        have hc6 : v6.cells = #[v6] := by rw [f6]; rfl
        have hob6 : (h.set q ⟨[v5, sv], 28, true⟩ ++ t6)[q]? = some ⟨[v5, sv], 28, true⟩ := at_app (List.getElem?_set_self hqL) t6
        simp (maxSteps := 4000000) (disch := (first | omega | (simp only [List.length_append, List.length_cons, List.length_nil, List.length_map, List.length_set]; omega))) only [wk, wb, run_block, run_seq, cnd_dec, cnd_ndec, hset_c0, wBuiltin, wAppend_empty, wCopy, wClear, dsOf, ev, aput, aPick, aExtract, aBuiltin, aZeros, ↓reduceIte, Nat.reduceAdd, Nat.reduceSub, Nat.reduceMul, Nat.reduceEqDiff, reduceCtorEq, Int.reduceGT, Int.reduceLT, Int.reduceLE, Int.reduceGE, Int.reduceEq, Int.reduceToNat, Int.reduceAdd, Int.reduceSub, Int.reduceNeg, Int.reduceMul, Nat.reduceLeDiff, tys, ptr, hset_of hob6, hv6, hc6, set_left (show q < (h.set q ⟨[v5, sv], 28, true⟩).length by rw [hg]; exact hqL)]
        have o5f := ((p6.own (o5.base (h' := h.set q ⟨[v5, sv], 28, true⟩) hg) (fun _ _ => d54)).keep (h' := h.set q ⟨[v5, v6], 28, true⟩ ++ t6) (by simp) fun hn => by
          rw [List.getElem?_append_right (by simp; omega), List.getElem?_append_right (by simp; omega)]; simp)
        have o6f := o6.keep (h' := h.set q ⟨[v5, v6], 28, true⟩ ++ t6) (by simp) fun hn => by
          have := o6.sid_lt hn
          rw [List.getElem?_append_right (by simp; omega), List.getElem?_append_right (by simp; omega)]; simp
        have e6 : h.length ≤ sid v6 ∧ sid v6 ≠ sid v5 := by
          rcases r6 with h1 | h1
          · rw [h1]; omega
          · omega
        have hlen : (names.take at_ ++ nm :: names.drop at_).length = at_ + 1 + (names.length - at_) := by simp; omega
        refine ⟨true, names.take at_ ++ nm :: names.drop at_, _, rfl, ⟨v5, v6, at_app (List.getElem?_set_self hqL) t6, (o5f.mono hLh).eqL hlen.symm (by simp [List.map_drop]; rw [List.take_of_length_le]; simp), (o6f.mono hLh).eqL hlen.symm rfl, fun _ => ⟨by omega, by omega, e6.2⟩, hq⟩,
          (Abv.set h _ hq).trans (Abv.app _ t6 (by simp; omega)), by rw [hlen]; omega, fun x hx => ?_⟩
        simp only [List.mem_append, List.mem_cons] at hx
        rcases hx with hx | hx | hx
        · exact .inl (List.mem_of_mem_take hx)
        · exact .inr hx
        · exact .inl (List.mem_of_mem_drop hx)
end Go.Proofs.YtmjalehlcbfljaaDoor

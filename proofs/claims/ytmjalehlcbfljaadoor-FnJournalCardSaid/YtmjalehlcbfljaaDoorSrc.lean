/- The source of draws: a draw answers a number below its bound. -/
import Derived.Test.YtmjalehlcbfljaaDoorTy
import Derived.Test.YtmjalehlcbfljaaDoorAmZ
set_option linter.unusedSectionVars false
set_option linter.defProp false
set_option linter.unusedVariables false
set_option linter.unusedSimpArgs false
set_option linter.unnecessarySimpa false
namespace Go.Proofs.YtmjalehlcbfljaaDoor
open Go Go.AM
set_option maxRecDepth 8000
theorem and_255 (a : Int) (h : 0 ≤ a ∧ a < 18446744073709551616) : (((BitVec.ofInt IntKind.u64.bits a &&& BitVec.ofInt IntKind.u64.bits 255).toNat : Nat) : Int) = a % 256 := by
  obtain ⟨n, rfl⟩ := Int.eq_ofNat_of_zero_le h.1
  show ((((BitVec.ofInt 64 (n : Int) &&& BitVec.ofInt 64 255).toNat : Nat)) : Int) = _
  have h1 : (BitVec.ofInt 64 255).toNat = 255 := by decide
  have h2 : (BitVec.ofInt 64 (n : Int)).toNat = n := by
    rw [BitVec.toNat_ofInt]; simp; omega
  rw [BitVec.toNat_and, h1, h2, show (255 : Nat) = 2 ^ 8 - 1 from rfl, Nat.and_two_pow_sub_one_eq_mod]
  simp
/-- A source of choices, of which at most n have been taken. -/
structure Src (h : AHeap) (p n : Nat) : Prop where
  obj : ∃ (cv : Value) (at_ : Nat) (seed : Nat) (l : List UInt8), h[p]? = some ⟨[cv, .int .i64 at_, .int .u64 seed], 58, true⟩ ∧ at_ ≤ n ∧ seed < 18446744073709551616 ∧
    Row h cv l.length 1 (l.map fun b => .int .u8 b.toNat) ∧ (0 < l.length → sid cv ≠ p) ∧ l.length < 4611686018427387904

def ptr (p : Nat) : Value := .pointer (some ⟨p, 0, none⟩)

theorem next_ok (h t : AHeap) (p n : Nat) (hs : Src h p n) (hn : n < 4611686018427387904) : ∃ v h', AC Tryd.prog 22 [ptr p] (h ++ t) v (h' ++ t) ∧ (∃ x : Nat, v = .int .i64 x ∧ x < 256) ∧ Src h' p (n + 1) ∧ Only p h h' ∧ h'.length = h.length := by
  obtain ⟨cv, at_, seed, l, ho, h1, h2, hr, h3, h4⟩ := hs
  have hlt : p < h.length := (List.getElem?_eq_some_iff.1 ho).1
  have hrd := rd_of ho
  have key : ∀ (a s : Nat), a ≤ n + 1 → s < 18446744073709551616 → Src (h.set p ⟨[cv, .int .i64 a, .int .u64 s], 58, true⟩) p (n + 1) := fun a s ha hs =>
    ⟨cv, a, s, l, List.getElem?_set_self hlt, ha, hs, hr.congr fun hl => rd_set_ne (Ne.symm (h3 hl)) _, h3, h4⟩
  have hb := (l.getD at_ 0).toNat_lt
  have hcell : ∀ j : Nat, (l.map fun b => Value.int .u8 (b.toNat : Int)).getD j undef = if j < l.length then .int .u8 (l.getD j 0).toNat else undef := by
    intro j; by_cases hj : j < l.length <;> simp [List.getD_eq_getElem?_getD, hj]
  have ho0 := ho
  have hr0 := hr
  replace ho := at_app ho t
  replace hrd := rd_of ho
  replace hr := hr.app t
  have hlt' : p < (h ++ t).length := by simp; omega
  suffices hh : ∃ v h'', AC Tryd.prog 22 [ptr p] (h ++ t) v h'' ∧ (∃ x : Nat, v = .int .i64 x ∧ x < 256) ∧ ∃ h', h'' = h' ++ t ∧ Src h' p (n + 1) ∧ Only p h h' ∧ h'.length = h.length by
    obtain ⟨v, h'', k1, k2, h', rfl, k3⟩ := hh
    exact ⟨v, h', k1, k2, k3⟩
  refine AC.walk Tryd.func22 rfl (by decide) (by kernel_rfl) mixed ?_
  simp (maxSteps := 4000000) (disch := (first | omega | (simp only [List.length_append, List.length_cons, List.length_nil, List.length_map, List.length_set]; omega))) only [wk, wb, run_block, run_seq, cnd_dec, cnd_ndec, hset_c0, wBuiltin, wAppend, wCopy, wClear, dsOf, ev, aput, aPick, aExtract, aBuiltin, aZeros, ↓reduceIte, Nat.reduceAdd, Nat.reduceSub, Nat.reduceMul, Nat.reduceEqDiff, reduceCtorEq, Int.reduceGT, Int.reduceLT, Int.reduceLE, Int.reduceGE, Int.reduceEq, Int.reduceToNat, Int.reduceAdd, Int.reduceSub, Int.reduceNeg, Int.reduceMul, Nat.reduceLeDiff, tys, Tryd.f22, ptr, hrd, hr.alen, hset_of ho]
  refine ⟨fun hlen => ?_, fun hlen => ⟨fun hle => ?_, fun hle => ?_⟩⟩
  · simp (maxSteps := 4000000) (disch := (first | omega | (simp only [List.length_append, List.length_cons, List.length_nil, List.length_map, List.length_set]; omega))) only [wk, wb, run_block, run_seq, cnd_dec, cnd_ndec, hset_c0, wBuiltin, wAppend, wCopy, wClear, dsOf, ev, aput, aPick, aExtract, aBuiltin, aZeros, ↓reduceIte, Nat.reduceAdd, Nat.reduceSub, Nat.reduceMul, Nat.reduceEqDiff, reduceCtorEq, Int.reduceGT, Int.reduceLT, Int.reduceLE, Int.reduceGE, Int.reduceEq, Int.reduceToNat, Int.reduceAdd, Int.reduceSub, Int.reduceNeg, Int.reduceMul, Nat.reduceLeDiff, tys, hrd, hr.alen, hset_of ho, hr.idx, hr.cell, hcell]
    rw [if_pos (by omega)]
    simp (maxSteps := 4000000) (disch := (first | omega | (simp only [List.length_append, List.length_cons, List.length_nil, List.length_map, List.length_set]; omega))) only [wk, wb, run_block, run_seq, cnd_dec, cnd_ndec, hset_c0, wBuiltin, wAppend, wCopy, wClear, dsOf, ev, aput, aPick, aExtract, aBuiltin, aZeros, ↓reduceIte, Nat.reduceAdd, Nat.reduceSub, Nat.reduceMul, Nat.reduceEqDiff, reduceCtorEq, Int.reduceGT, Int.reduceLT, Int.reduceLE, Int.reduceGE, Int.reduceEq, Int.reduceToNat, Int.reduceAdd, Int.reduceSub, Int.reduceNeg, Int.reduceMul, Nat.reduceLeDiff, tys, hrd, hr.alen, hset_of ho, hr.idx, hr.cell, hcell]
    refine ⟨fun hle => ?_, fun hle => ?_⟩
    · refine ⟨⟨_, rfl, by omega⟩, _, set_left hlt _ _, ?_, Only.set _ _ _, by simp⟩
      rw [show (at_ : Int) + 1 = ((at_ + 1 : Nat) : Int) by omega]
      generalize hs : ((((seed : Int) * 6364136223846793005 % 18446744073709551616 + ((l.getD at_ 0).toNat : Int) % 18446744073709551616) % 18446744073709551616 + 1442695040888963407) % 18446744073709551616) = s
      have h5 : 0 ≤ s ∧ s < 18446744073709551616 := by omega
      clear hs
      obtain ⟨m, rfl⟩ := Int.eq_ofNat_of_zero_le h5.1
      exact key (at_ + 1) m (by omega) (by omega)
    · omega
  · omega
  · generalize hs : ((((seed : Int) * 6364136223846793005 % 18446744073709551616 + 0 % 18446744073709551616) % 18446744073709551616 + 1442695040888963407) % 18446744073709551616) = s
    have h5 : 0 ≤ s ∧ s < 18446744073709551616 := by omega
    clear hs
    obtain ⟨m, rfl⟩ := Int.eq_ofNat_of_zero_le h5.1
    rw [show (at_ : Int) + 1 = ((at_ + 1 : Nat) : Int) by omega]
    refine ⟨?_, _, set_left hlt _ _, key (at_ + 1) m (by omega) (by omega), Only.set _ _ _, by simp⟩
    have h6 : ((m : Int).fdiv (2 ^ min 40 64)) = (m : Int) / 1099511627776 := by
      rw [show (2 ^ min 40 64 : Int) = 1099511627776 from by decide, Int.fdiv_eq_ediv_of_nonneg _ (by omega)]
    rw [h6, and_255 _ (by omega)]
    refine ⟨(m / 1099511627776) % 256, ?_, by omega⟩
    rw [wrap_i64 _ (by omega)]
    congr 1
    omega

theorem Src.lt {h : AHeap} {p n : Nat} (hs : Src h p n) : p < h.length := by
  obtain ⟨cv, at_, seed, l, ho, _⟩ := hs; exact (List.getElem?_eq_some_iff.1 ho).1
theorem Src.mono {h : AHeap} {p n m : Nat} (hs : Src h p n) (hm : n ≤ m) : Src h p m := by
  obtain ⟨cv, at_, seed, l, ho, h1, h2⟩ := hs; exact ⟨cv, at_, seed, l, ho, by omega, h2⟩
/-- What does not touch the source leaves it. -/
theorem Src.keep {h h' : AHeap} {p n : Nat} (hs : Src h p n) (hh : ∀ (k : Nat) (o : AObj), h[k]? = some o → h'[k]? = some o) : Src h' p n := by
  obtain ⟨cv, at_, seed, l, ho, h1, h2, hr, h3⟩ := hs
  refine ⟨cv, at_, seed, l, hh _ _ ho, h1, h2, hr.congr fun hl => ?_, h3⟩
  have := hr.lt hl
  unfold rd
  rw [hh _ _ (List.getElem?_eq_getElem this), List.getElem?_eq_getElem this]
theorem Src.app {h : AHeap} {p n : Nat} (hs : Src h p n) (t : AHeap) : Src (h ++ t) p n := hs.keep fun k o hk => by
  rw [List.getElem?_append_left (List.getElem?_eq_some_iff.1 hk).1]; exact hk

theorem pick_ok (h t : AHeap) (p n : Nat) (m : Int) (hs : Src h p n) (hn : n < 4611686018427387000) (hm : m < 9223372036854775808) : ∃ v h', AC Tryd.prog 11 [ptr p, .int .i64 m] (h ++ t) v (h' ++ t) ∧ (∃ x : Nat, v = .int .i64 x ∧ x < 65536 ∧ ((x : Int) < m ∨ x = 0)) ∧ Src h' p (n + 2) ∧ Only p h h' ∧ h'.length = h.length := by
  suffices hh : ∃ v h'', AC Tryd.prog 11 [ptr p, .int .i64 m] (h ++ t) v h'' ∧ (∃ x : Nat, v = .int .i64 x ∧ x < 65536 ∧ ((x : Int) < m ∨ x = 0)) ∧ ∃ h', h'' = h' ++ t ∧ Src h' p (n + 2) ∧ Only p h h' ∧ h'.length = h.length by
    obtain ⟨v, h'', k1, k2, h', rfl, k3⟩ := hh
    exact ⟨v, h', k1, k2, k3⟩
  refine AC.walk Tryd.func11 rfl (by decide) (by kernel_rfl) mixed ?_
  simp (maxSteps := 4000000) (disch := (first | omega | (simp only [List.length_append, List.length_cons, List.length_nil, List.length_map, List.length_set]; omega))) only [wk, wb, run_block, run_seq, cnd_dec, cnd_ndec, hset_c0, wBuiltin, wAppend, wCopy, wClear, dsOf, ev, aput, aPick, aExtract, aBuiltin, aZeros, ↓reduceIte, Nat.reduceAdd, Nat.reduceSub, Nat.reduceMul, Nat.reduceEqDiff, reduceCtorEq, Int.reduceGT, Int.reduceLT, Int.reduceLE, Int.reduceGE, Int.reduceEq, Int.reduceToNat, Int.reduceAdd, Int.reduceSub, Int.reduceNeg, Int.reduceMul, Nat.reduceLeDiff, tys, Tryd.f11, ptr]
  refine ⟨fun h1 => ⟨⟨0, rfl, by omega, by omega⟩, _, rfl, hs.mono (by omega), Only.refl _ _, rfl⟩, fun h1 => ?_⟩
  obtain ⟨v, h', hc, ⟨x, rfl, hx⟩, hs1, ho1, hl1⟩ := next_ok h t p n hs (by omega)
  refine acall.ac hc ?_
  simp (maxSteps := 4000000) (disch := (first | omega | (simp only [List.length_append, List.length_cons, List.length_nil, List.length_map, List.length_set]; omega))) only [wk, wb, run_block, run_seq, cnd_dec, cnd_ndec, hset_c0, wBuiltin, wAppend, wCopy, wClear, dsOf, ev, aput, aPick, aExtract, aBuiltin, aZeros, ↓reduceIte, Nat.reduceAdd, Nat.reduceSub, Nat.reduceMul, Nat.reduceEqDiff, reduceCtorEq, Int.reduceGT, Int.reduceLT, Int.reduceLE, Int.reduceGE, Int.reduceEq, Int.reduceToNat, Int.reduceAdd, Int.reduceSub, Int.reduceNeg, Int.reduceMul, Nat.reduceLeDiff, tys]
  refine ⟨fun h2 => ?_, fun h2 => ?_⟩
  · obtain ⟨v, h'', hc, ⟨y, rfl, hy⟩, hs2, ho2, hl2⟩ := next_ok h' t p (n + 1) hs1 (by omega)
    refine acall.ac hc ?_
    simp (maxSteps := 4000000) (disch := (first | omega | (simp only [List.length_append, List.length_cons, List.length_nil, List.length_map, List.length_set]; omega))) only [wk, wb, run_block, run_seq, cnd_dec, cnd_ndec, hset_c0, wBuiltin, wAppend, wCopy, wClear, dsOf, ev, aput, aPick, aExtract, aBuiltin, aZeros, ↓reduceIte, Nat.reduceAdd, Nat.reduceSub, Nat.reduceMul, Nat.reduceEqDiff, reduceCtorEq, Int.reduceGT, Int.reduceLT, Int.reduceLE, Int.reduceGE, Int.reduceEq, Int.reduceToNat, Int.reduceAdd, Int.reduceSub, Int.reduceNeg, Int.reduceMul, Nat.reduceLeDiff, tys]
    refine ⟨⟨(x * 256 + y) % m.toNat, ?_, ?_, ?_⟩, _, rfl, hs2, ho1.trans ho2, by omega⟩
    · congr 1; rw [Int.natCast_emod]; congr 1; omega
    · have := Nat.mod_le (x * 256 + y) m.toNat; omega
    · have := Nat.mod_lt (x * 256 + y) (show m.toNat > 0 by omega); omega
  · refine ⟨⟨x % m.toNat, ?_, ?_, ?_⟩, _, rfl, hs1.mono (by omega), ho1, by omega⟩
    · congr 1; rw [Int.natCast_emod]; congr 1; omega
    · have := Nat.mod_le x m.toNat; omega
    · have := Nat.mod_lt x (show m.toNat > 0 by omega); omega

theorem one_ok (h t : AHeap) (p n : Nat) (m : Int) (hs : Src h p n) (hn : n < 4611686018427387000) (hm : m < 9223372036854775808) : ∃ v h', AC Tryd.prog 24 [ptr p, .int .i64 m] (h ++ t) v (h' ++ t) ∧ (∃ b : Bool, v = .bool b) ∧ Src h' p (n + 2) ∧ Only p h h' ∧ h'.length = h.length := by
  suffices hh : ∃ v h'', AC Tryd.prog 24 [ptr p, .int .i64 m] (h ++ t) v h'' ∧ (∃ b : Bool, v = .bool b) ∧ ∃ h', h'' = h' ++ t ∧ Src h' p (n + 2) ∧ Only p h h' ∧ h'.length = h.length by
    obtain ⟨v, h'', k1, k2, h', rfl, k3⟩ := hh
    exact ⟨v, h', k1, k2, k3⟩
  refine AC.walk Tryd.func24 rfl (by decide) (by kernel_rfl) mixed ?_
  simp (maxSteps := 4000000) (disch := (first | omega | (simp only [List.length_append, List.length_cons, List.length_nil, List.length_map, List.length_set]; omega))) only [wk, wb, run_block, run_seq, cnd_dec, cnd_ndec, hset_c0, wBuiltin, wAppend, wCopy, wClear, dsOf, ev, aput, aPick, aExtract, aBuiltin, aZeros, ↓reduceIte, Nat.reduceAdd, Nat.reduceSub, Nat.reduceMul, Nat.reduceEqDiff, reduceCtorEq, Int.reduceGT, Int.reduceLT, Int.reduceLE, Int.reduceGE, Int.reduceEq, Int.reduceToNat, Int.reduceAdd, Int.reduceSub, Int.reduceNeg, Int.reduceMul, Nat.reduceLeDiff, tys, Tryd.f24, ptr]
  obtain ⟨v, h', hc, ⟨x, rfl, hx⟩, hs1, ho1, hl1⟩ := pick_ok h t p n m hs hn hm
  refine acall.ac hc ?_
  simp (maxSteps := 4000000) (disch := (first | omega | (simp only [List.length_append, List.length_cons, List.length_nil, List.length_map, List.length_set]; omega))) only [wk, wb, run_block, run_seq, cnd_dec, cnd_ndec, hset_c0, wBuiltin, wAppend, wCopy, wClear, dsOf, ev, aput, aPick, aExtract, aBuiltin, aZeros, ↓reduceIte, Nat.reduceAdd, Nat.reduceSub, Nat.reduceMul, Nat.reduceEqDiff, reduceCtorEq, Int.reduceGT, Int.reduceLT, Int.reduceLE, Int.reduceGE, Int.reduceEq, Int.reduceToNat, Int.reduceAdd, Int.reduceSub, Int.reduceNeg, Int.reduceMul, Nat.reduceLeDiff, tys]
  exact ⟨⟨_, rfl⟩, _, rfl, hs1, ho1, hl1⟩

/-- One of some texts. -/
theorem text_ok (h t : AHeap) (p n : Nat) (lv : Value) (ls : List (List UInt8)) (hr : Row (h ++ t) lv ls.length 1 (ls.map str)) (hne : sid lv ≠ p) (hl : 0 < ls.length ∧ ls.length < 9223372036854775808) (hs : Src h p n) (hn : n < 4611686018427387000) :
    ∃ v h', AC Tryd.prog 23 [ptr p, lv] (h ++ t) v (h' ++ t) ∧ (∃ x ∈ ls, v = str x) ∧ Src h' p (n + 2) ∧ Only p h h' ∧ h'.length = h.length := by
  suffices hh : ∃ v h'', AC Tryd.prog 23 [ptr p, lv] (h ++ t) v h'' ∧ (∃ x ∈ ls, v = str x) ∧ ∃ h', h'' = h' ++ t ∧ Src h' p (n + 2) ∧ Only p h h' ∧ h'.length = h.length by
    obtain ⟨v, h'', k1, k2, h', rfl, k3⟩ := hh
    exact ⟨v, h', k1, k2, k3⟩
  refine AC.walk Tryd.func23 rfl (by decide) (by kernel_rfl) mixed ?_
  simp (maxSteps := 4000000) (disch := (first | omega | (simp only [List.length_append, List.length_cons, List.length_nil, List.length_map, List.length_set]; omega))) only [wk, wb, run_block, run_seq, cnd_dec, cnd_ndec, hset_c0, wBuiltin, wAppend, wCopy, wClear, dsOf, ev, aput, aPick, aExtract, aBuiltin, aZeros, ↓reduceIte, Nat.reduceAdd, Nat.reduceSub, Nat.reduceMul, Nat.reduceEqDiff, reduceCtorEq, Int.reduceGT, Int.reduceLT, Int.reduceLE, Int.reduceGE, Int.reduceEq, Int.reduceToNat, Int.reduceAdd, Int.reduceSub, Int.reduceNeg, Int.reduceMul, Nat.reduceLeDiff, tys, Tryd.f23, ptr, hr.alen]
  obtain ⟨v, h', hc, ⟨x, rfl, hx, hxm⟩, hs1, ho1, hl1⟩ := pick_ok h t p n ls.length hs hn (by omega)
  have hr1 := ho1.row' hl1 hr fun _ => hne
  have hxl : x < ls.length := by omega
  refine acall.ac hc ?_
  have hcell : ∀ j : Nat, j < ls.length → (ls.map str).getD j undef = str (ls.getD j []) := by
    intro j hj; simp [List.getD_eq_getElem?_getD, hj]
  simp (maxSteps := 4000000) (disch := (first | omega | (simp only [List.length_append, List.length_cons, List.length_nil, List.length_map, List.length_set]; omega))) only [wk, wb, run_block, run_seq, cnd_dec, cnd_ndec, hset_c0, wBuiltin, wAppend, wCopy, wClear, dsOf, ev, aput, aPick, aExtract, aBuiltin, aZeros, ↓reduceIte, Nat.reduceAdd, Nat.reduceSub, Nat.reduceMul, Nat.reduceEqDiff, reduceCtorEq, Int.reduceGT, Int.reduceLT, Int.reduceLE, Int.reduceGE, Int.reduceEq, Int.reduceToNat, Int.reduceAdd, Int.reduceSub, Int.reduceNeg, Int.reduceMul, Nat.reduceLeDiff, tys, hr1.idx, hr1.cell, hcell]
  refine ⟨⟨_, ?_, rfl⟩, _, rfl, hs1, ho1, hl1⟩
  simp [List.getD_eq_getElem?_getD, hxl]
/-- One of some numbers. -/
theorem among_ok (h t : AHeap) (p n : Nat) (lv : Value) (ls : List Int) (hr : Row (h ++ t) lv ls.length 1 (ls.map (.int .i64))) (hne : sid lv ≠ p) (hl : 0 < ls.length ∧ ls.length < 9223372036854775808) (hs : Src h p n) (hn : n < 4611686018427387000) :
    ∃ v h', AC Tryd.prog 44 [ptr p, lv] (h ++ t) v (h' ++ t) ∧ (∃ x ∈ ls, v = .int .i64 x) ∧ Src h' p (n + 2) ∧ Only p h h' ∧ h'.length = h.length := by
  suffices hh : ∃ v h'', AC Tryd.prog 44 [ptr p, lv] (h ++ t) v h'' ∧ (∃ x ∈ ls, v = .int .i64 x) ∧ ∃ h', h'' = h' ++ t ∧ Src h' p (n + 2) ∧ Only p h h' ∧ h'.length = h.length by
    obtain ⟨v, h'', k1, k2, h', rfl, k3⟩ := hh
    exact ⟨v, h', k1, k2, k3⟩
  refine AC.walk Tryd.func44 rfl (by decide) (by kernel_rfl) mixed ?_
  simp (maxSteps := 4000000) (disch := (first | omega | (simp only [List.length_append, List.length_cons, List.length_nil, List.length_map, List.length_set]; omega))) only [wk, wb, run_block, run_seq, cnd_dec, cnd_ndec, hset_c0, wBuiltin, wAppend, wCopy, wClear, dsOf, ev, aput, aPick, aExtract, aBuiltin, aZeros, ↓reduceIte, Nat.reduceAdd, Nat.reduceSub, Nat.reduceMul, Nat.reduceEqDiff, reduceCtorEq, Int.reduceGT, Int.reduceLT, Int.reduceLE, Int.reduceGE, Int.reduceEq, Int.reduceToNat, Int.reduceAdd, Int.reduceSub, Int.reduceNeg, Int.reduceMul, Nat.reduceLeDiff, tys, Tryd.f44, ptr, hr.alen]
  obtain ⟨v, h', hc, ⟨x, rfl, hx, hxm⟩, hs1, ho1, hl1⟩ := pick_ok h t p n ls.length hs hn (by omega)
  have hr1 := ho1.row' hl1 hr fun _ => hne
  have hxl : x < ls.length := by omega
  refine acall.ac hc ?_
  have hcell : ∀ j : Nat, j < ls.length → (ls.map (Value.int .i64)).getD j undef = .int .i64 (ls.getD j 0) := by
    intro j hj; simp [List.getD_eq_getElem?_getD, hj]
  simp (maxSteps := 4000000) (disch := (first | omega | (simp only [List.length_append, List.length_cons, List.length_nil, List.length_map, List.length_set]; omega))) only [wk, wb, run_block, run_seq, cnd_dec, cnd_ndec, hset_c0, wBuiltin, wAppend, wCopy, wClear, dsOf, ev, aput, aPick, aExtract, aBuiltin, aZeros, ↓reduceIte, Nat.reduceAdd, Nat.reduceSub, Nat.reduceMul, Nat.reduceEqDiff, reduceCtorEq, Int.reduceGT, Int.reduceLT, Int.reduceLE, Int.reduceGE, Int.reduceEq, Int.reduceToNat, Int.reduceAdd, Int.reduceSub, Int.reduceNeg, Int.reduceMul, Nat.reduceLeDiff, tys, hr1.idx, hr1.cell, hcell]
  refine ⟨⟨_, ?_, rfl⟩, _, rfl, hs1, ho1, hl1⟩
  simp [List.getD_eq_getElem?_getD, hxl]
theorem Src.fz {h : AHeap} {p n : Nat} (hs : Src h p n) : Src (fz p h) p n := by
  obtain ⟨cv, at_, seed, l, ho, h1, h2, hr, h3⟩ := hs
  exact ⟨cv, at_, seed, l, by rw [fz_get, ho]; simp, h1, h2, hr.congr fun _ => rd_fz _ _ _, h3⟩
theorem Src.at {h : AHeap} {p n : Nat} (hs : Src h p n) : ∃ o, h[p]? = some o ∧ o.w = true := by
  obtain ⟨cv, at_, seed, l, ho, _⟩ := hs; exact ⟨_, ho, rfl⟩
theorem Src.thaw {h h1 : AHeap} {p m : Nat} (hs : Src h1 p m) (ho : Only p (AM.fz p h) h1) (hl : h1.length = h.length) : Src (thaw p h h1) p m ∧ Only p h (thaw p h h1) ∧ (thaw p h h1).length = h.length := by
  have hp := hs.lt
  obtain ⟨cv, at_, seed, l, hob, h1', h2, hr, h3, h4⟩ := hs
  refine ⟨⟨cv, at_, seed, l, ?_, h1', h2, hr.congr fun hl' => ?_, h3, h4⟩, Only.set _ _ _, thaw_length _ _ _⟩
  · unfold AM.thaw
    rw [List.getElem?_set_self (by omega), List.getD_eq_getElem?_getD, hob]; rfl
  · have hlt := hr.lt hl'
    have e1 : rd (AM.thaw p h h1) (sid cv) = rd h (sid cv) := rd_set_ne (Ne.symm (h3 hl')) _
    rw [e1, ← rd_fz p h, ← ho.rd (by rw [fz_length]; omega) (h3 hl')]
end Go.Proofs.YtmjalehlcbfljaaDoor

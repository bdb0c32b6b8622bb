/- A part of the abstract machine's laws: steps, calls and loops over abstract heaps. -/
import Derived.Test.YtmjalehlcbfljaaDoorAmX
set_option linter.unusedSectionVars false
set_option linter.defProp false
set_option linter.unusedVariables false
set_option linter.unusedSimpArgs false
set_option linter.unnecessarySimpa false
namespace Go.AM
open Go
variable [Ground]
theorem icast0 : ((0 : Nat) : Int) = 0 := rfl
theorem icast1 : ((1 : Nat) : Int) = 1 := rfl
/-- What an append leaves as it was. -/
structure Pushed (g t t' : AHeap) (L : Nat) (v v' : Value) (n : Nat) : Prop where
  len : t.length < t'.length
  idr : L + t.length ≤ AM.sid v' ∧ AM.sid v' < L + t'.length
  at_ : ∀ j, j < t.length → (0 < n → L + j ≠ AM.sid v) → t'[j]? = t[j]?
  row : ∀ {w : Value} {m k : Nat} {xs : List Value}, Row (g ++ t) w m k xs → (0 < n → 0 < m → AM.sid w ≠ AM.sid v) → Row (g ++ t') w m k xs
  own : ∀ {K : Nat} {w : Value} {m k : Nat} {e : TypeId} {xs : List Value}, Own (g ++ t) K w m k e xs → (0 < n → 0 < m → AM.sid w ≠ AM.sid v) → Own (g ++ t') K w m k e xs

section
variable {P : Program} {g t : AHeap} {L n k : Nat} {v : Value} {e : TypeId} {cs : List Value}
theorem Pushed.of {t' : AHeap} {v' : Value} (hg : g.length = L) (hl : t.length < t'.length) (hs : L + t.length ≤ AM.sid v' ∧ AM.sid v' < L + t'.length) (hat : ∀ j, j < t.length → (0 < n → L + j ≠ AM.sid v) → t'[j]? = t[j]?) : Pushed g t t' L v v' n := by
  have key : ∀ j, j < (g ++ t).length → (0 < n → j ≠ AM.sid v) → (j < L → True) → (g ++ t')[j]? = (g ++ t)[j]? := by
    intro j hj hne _
    by_cases hjl : j < g.length
    · rw [List.getElem?_append_left hjl, List.getElem?_append_left hjl]
    · rw [List.getElem?_append_right (by omega), List.getElem?_append_right (by omega)]
      simp only [List.length_append] at hj
      refine hat (j - g.length) (by omega) fun hn => ?_
      have := hne hn
      omega
  refine ⟨hl, hs, hat, fun {w m k xs} r hne => r.congr fun hm => ?_, fun {K w m k e xs} o hne => o.keep (by simp; omega) fun hm => ?_⟩
  · unfold rd; rw [key _ (r.lt hm) (fun hn => hne hn hm) (fun _ => trivial)]
  · exact key _ (o.sid_lt hm).2 (fun hn => hne hn hm) (fun _ => trivial)
/-- append to a slice of one's own, from whatever. -/
theorem Own.add (o : Own (g ++ t) L v n k e cs) (hg : g.length = L) {ty ty' : TypeId} {ti : TI} (hs : selem P ty = some e) (hi : tinfo P e = some ti) (hk : ti.size = k) (hz : ti.zero.length = ti.size) {x : Value} {m : Nat} {ys : List Value} (hnews : aSrc P ty ty' x ti.size (g ++ t) = some (m, ys)) (hyl : ys.length = m * k) (hys : ∀ v ∈ ys, isCell v = true)
    (hm : 0 < m) (hb : (n + m) * ti.bytes ≤ 140737488355328) (hc : n + m ≤ 4611686018427387904) :
    ∃ v' t', aAppend P ty ty' v x (g ++ t) = some (v', g ++ t') ∧ Own (g ++ t') L v' (n + m) k e (cs ++ ys) ∧ Pushed g t t' L v v' n := by
  have h5 : (g ++ t).length = L + t.length := by rw [List.length_append, hg]
  obtain ⟨v', h', ha, ho, h1, h2, h3, h4⟩ := o.append' hs hi hk hz hnews hyl hys hm hb hc (by omega)
  rw [h5] at h3 h4
  rcases Nat.eq_zero_or_pos n with h0 | hn
  · obtain ⟨ob, rfl⟩ := h2 h0
    refine ⟨v', t ++ [ob], by rw [ha]; simp, by simpa using ho, Pushed.of hg (by simp) (by rw [h4, List.length_append, List.length_singleton]; omega) fun j hj _ => List.getElem?_append_left hj⟩
  · have hon := h1 hn
    have hL : L ≤ sid v := (o.sid_lt hn).1
    obtain ⟨t', rfl, ht'⟩ := hon.split (by omega)
    have hl' : t'.length = t.length + 1 := by rw [List.length_append, hg] at h3; omega
    refine ⟨v', t', ha, ho, Pushed.of hg (by omega) (by rw [h4]; omega) fun j hj hne => ?_⟩
    have := hon.same (L + j) (by simp; omega) (hne hn)
    rw [List.getElem?_append_right (by omega), List.getElem?_append_right (by omega)] at this
    rwa [show L + j - g.length = j by omega] at this
theorem Pushed.pre {t' : AHeap} {v' : Value} {o : AObj} (hg : g.length = L) (p : Pushed g (t ++ [o]) t' L v v' n) : Pushed g t t' L v v' n := by
  have h1 := p.len; have h2 := p.idr
  rw [List.length_append, List.length_singleton] at h1 h2
  exact Pushed.of hg (by omega) (by omega) fun j hj hne => by rw [p.at_ j (by simp; omega) hne, List.getElem?_append_left hj]
/-- One more thing, that has just been built. -/
theorem Own.push1 (o : Own (g ++ t) L v n k e cs) (hg : g.length = L) {ty : TypeId} {ti : TI} {zs : List Value} (hs : selem P ty = some e) (hi : tinfo P e = some ti) (hk : ti.size = k) (hz : ti.zero.length = ti.size)
    (hzl : zs.length = k) (hzc : ∀ v ∈ zs, isCell v = true) (hb : (n + 1) * ti.bytes ≤ 140737488355328) (hc : n + 1 ≤ 4611686018427387904) :
    ∃ v' t', aAppend P ty ty v (.slice (some ⟨L + t.length, 0, none⟩) 1 1) (g ++ (t ++ [⟨zs, e, true⟩])) = some (v', g ++ t') ∧ Own (g ++ t') L v' (n + 1) k e (cs ++ zs) ∧ Pushed g t t' L v v' n := by
  have e1 : g ++ (t ++ [⟨zs, e, true⟩]) = (g ++ t) ++ [⟨zs, e, true⟩] := by simp
  have o2 := o.app [⟨zs, e, true⟩]
  rw [← e1] at o2
  have hx : aSrc P ty ty (.slice (some ⟨L + t.length, 0, none⟩) 1 1) ti.size (g ++ (t ++ [⟨zs, e, true⟩])) = some (1, zs) := by
    rw [aSrc_same]
    simp only [aNews]
    rw [e1, hread_rd, ← hg, ← List.length_append, rd_new (g ++ t) _ []]
    simp [hzl, hk, List.take_of_length_le]
  obtain ⟨v', t', k1, k2, k3⟩ := o2.add hg hs hi hk hz hx (by omega) hzc (by omega) hb hc
  exact ⟨v', t', k1, k2, k3.pre hg⟩
/-- append of a row. -/
theorem Own.addRow (o : Own (g ++ t) L v n k e cs) (hg : g.length = L) {ty : TypeId} {ti : TI} (hs : selem P ty = some e) (hi : tinfo P e = some ti) (hk : ti.size = k) (hz : ti.zero.length = ti.size) {x : Value} {m : Nat} {ys : List Value} (hx : Row (g ++ t) x m k ys) (hys : ∀ v ∈ ys, isCell v = true)
    (hm : 0 < m) (hb : (n + m) * ti.bytes ≤ 140737488355328) (hc : n + m ≤ 4611686018427387904) :
    ∃ v' t', aAppend P ty ty v x (g ++ t) = some (v', g ++ t') ∧ Own (g ++ t') L v' (n + m) k e (cs ++ ys) ∧ Pushed g t t' L v v' n := by
  subst hk
  refine o.add hg hs hi rfl hz ?_ hx.len hys hm hb hc
  rw [aSrc_same]
  rcases news_row hx with ⟨ys', h1, h2⟩ | h0
  · rw [h1, h2 hm]
  · omega
/-- append of a string's bytes. -/
theorem Own.addStr (o : Own (g ++ t) L v n 1 e cs) (hg : g.length = L) {ty ty' : TypeId} {ti : TI} (hs : selem P ty = some e) (ht : ¬ ty = ty') (hst : isStrT P ty' = true) (hi : tinfo P e = some ti) (hk : ti.size = 1) (hz : ti.zero.length = ti.size) {x : List UInt8}
    (hm : 0 < x.length) (hb : (n + x.length) * ti.bytes ≤ 140737488355328) (hc : n + x.length ≤ 4611686018427387904) :
    ∃ v' t', aAppend P ty ty' v (str x) (g ++ t) = some (v', g ++ t') ∧ Own (g ++ t') L v' (n + x.length) 1 e (cs ++ x.map fun b => .int .u8 b.toNat) ∧ Pushed g t t' L v v' n := by
  refine o.add hg hs hi hk hz ?_ (by simp) (by simp; intro b _; rfl) hm hb hc
  simp [aSrc, ht, str, hst, hk, byteCells, ByteArray.size]
theorem Own.cellsD (o : Own (g ++ t) L v n k e cs) (hg : g.length = L) (hn : 0 < n) : ∃ j, sid v = L + j ∧ j < t.length ∧ t[j]? = some ⟨cs, e, true⟩ := by
  rcases o.sh with ⟨h0, _⟩ | ⟨_, id, rfl, hL, ho⟩
  · omega
  · have hlt := (List.getElem?_eq_some_iff.1 ho).1
    simp only [List.length_append] at hlt
    refine ⟨id - L, by simp only [sid]; omega, by omega, ?_⟩
    rw [List.getElem?_append_right (by omega)] at ho
    rw [← ho]; congr 1; omega
end
/-! ### bytes to a string -/
theorem bytesOf_map (l : List UInt8) : bytesOf (l.map fun b => Value.int .u8 b.toNat) = some l := by
  induction l with
  | nil => rfl
  | cons b r ih =>
    simp only [List.map_cons, bytesOf, ih, Option.map_some, Option.some.injEq, List.cons.injEq, and_true]
    show ((b.toNat : Int).toNat).toUInt8 = b
    simp
theorem Row.toStr {P : Program} {h : AHeap} {v : Value} {l : List UInt8} (r : Row h v l.length 1 (l.map fun b => Value.int .u8 b.toNat)) {s d e : TypeId} (hd : isStrT P d = true) (hs : selem P s = some e) (he : P.underlying e = some (.int .u8))
    (hz : l.length = 0 → ∀ id off c, v = .slice (some ⟨id, off, none⟩) 0 c → ∃ cs, rd h id = some cs ∧ off ≤ cs.length) : aConvert P s d v h = some (str l) := by
  have hb := bytesOf_map l
  have main : aBytesStr P s d v h = some (str l) := by
    unfold aBytesStr
    rw [if_pos hd, hs]
    simp only [Option.bind_some, he]
    rcases r.shape with ⟨rfl, h0⟩ | ⟨c, hv⟩
    · have : l = [] := List.length_eq_zero_iff.1 h0
      subst this; rfl
    · rcases Nat.eq_zero_or_pos l.length with h0 | hn
      · have hl : l = [] := List.length_eq_zero_iff.1 h0
        subst hl
        obtain ⟨cs, h1, h2⟩ := hz rfl _ _ _ hv
        rw [hv]
        simp only [hread_rd, h1, Option.bind_some, List.length_nil, Nat.add_zero, if_pos h2, List.take_zero, bytesOf, Option.map_some]
        rfl
      · obtain ⟨cs, h1, h2, h3⟩ := r.cells hn
        rw [Nat.mul_one] at h2 h3
        rw [hv]
        simp only [hread_rd, h1, Option.bind_some, if_pos h2, h3, hb, Option.map_some]
        rfl
  unfold aConvert
  split
  · rename_i k n
    rcases r.shape with ⟨h, _⟩ | ⟨c, h⟩ <;> cases h
  · exact main
end Go.AM

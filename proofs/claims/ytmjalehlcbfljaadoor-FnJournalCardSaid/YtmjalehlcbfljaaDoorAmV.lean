/- A part of the abstract machine's laws: steps, calls and loops over abstract heaps. -/
import Derived.Test.YtmjalehlcbfljaaDoorAmU
set_option linter.unusedSectionVars false
set_option linter.defProp false
set_option linter.unusedVariables false
set_option linter.unusedSimpArgs false
set_option linter.unnecessarySimpa false
namespace Go.AM
open Go
variable [Ground]

/-- A slice of its own, with its cells; its row lies at L or behind. -/
structure Own (h : AHeap) (L : Nat) (v : Value) (n k : Nat) (e : TypeId) (cs : List Value) : Prop where
  len : cs.length = n * k
  sh : (n = 0 ∧ (v = .slice none 0 0 ∨ ∃ id, v = .slice (some ⟨id, 0, none⟩) 0 0 ∧ L ≤ id ∧ id < h.length)) ∨ (0 < n ∧ ∃ id, v = .slice (some ⟨id, 0, none⟩) n big ∧ L ≤ id ∧ h[id]? = some ⟨cs, e, true⟩)
  cells : ∀ v ∈ cs, isCell v = true

section
variable {P : Program} {h : AHeap} {L n k : Nat} {v : Value} {e : TypeId} {cs : List Value}
theorem Own.row (o : Own h L v n k e cs) : Row h v n k cs := by
  rcases o.sh with ⟨rfl, hv⟩ | ⟨hn, id, rfl, hL, ho⟩
  · have : cs = [] := by have := o.len; simpa using this
    subst this
    rcases hv with rfl | ⟨id, rfl, _, _⟩
    · exact Row.nil h k
    · exact ⟨o.len, .inr ⟨0, rfl⟩, fun h => by omega, fun a m c h => by cases h; exact .inr (Nat.le_refl _)⟩
  · exact Row.new (rd_of ho) o.len
theorem Own.nil (h : AHeap) (L k : Nat) (e : TypeId) : Own h L (.slice none 0 0) 0 k e [] := ⟨by simp, .inl ⟨rfl, .inl rfl⟩, by simp⟩
theorem Own.empty {h : AHeap} {L id : Nat} (k : Nat) (e : TypeId) (hL : L ≤ id) (hi : id < h.length) : Own h L (.slice (some ⟨id, 0, none⟩) 0 0) 0 k e [] := ⟨by simp, .inl ⟨rfl, .inr ⟨id, rfl, hL, hi⟩⟩, by simp⟩
theorem Own.sid_lt (o : Own h L v n k e cs) (hn : 0 < n) : L ≤ sid v ∧ sid v < h.length := by
  rcases o.sh with ⟨h0, _⟩ | ⟨_, id, rfl, hL, ho⟩
  · omega
  · exact ⟨hL, (List.getElem?_eq_some_iff.1 ho).1⟩
/-- It stays where nothing of it is changed. -/
theorem Own.keep {h' : AHeap} (o : Own h L v n k e cs) (hl : h.length ≤ h'.length) (hh : 0 < n → h'[sid v]? = h[sid v]?) : Own h' L v n k e cs := by
  refine ⟨o.len, ?_, o.cells⟩
  rcases o.sh with ⟨h0, hv⟩ | ⟨hn, id, rfl, hL, ho⟩
  · refine .inl ⟨h0, ?_⟩
    rcases hv with hv | ⟨id, hv, h1, h2⟩
    · exact .inl hv
    · exact .inr ⟨id, hv, h1, by omega⟩
  · exact .inr ⟨hn, id, rfl, hL, by rw [← ho]; exact hh hn⟩
theorem Own.app (o : Own h L v n k e cs) (t : AHeap) : Own (h ++ t) L v n k e cs := by
  refine o.keep (by simp) fun hn => ?_
  rw [List.getElem?_append_left (o.sid_lt hn).2]

theorem news_row {x : Value} {m : Nat} {ys : List Value} (hx : Row h x m k ys) : (∃ ys', aNews x k h = some (m, ys') ∧ (0 < m → ys' = ys)) ∨ m = 0 := by
  rcases Nat.eq_zero_or_pos m with h0 | hm
  · exact .inr h0
  · left
    rcases hx.shape with ⟨_, h0⟩ | ⟨c, hv⟩
    · omega
    · obtain ⟨zs, h1, h2, h3⟩ := hx.cells hm
      refine ⟨ys, ?_, fun _ => rfl⟩
      rw [hv]
      simp only [aNews]
      rw [hread_rd, h1]
      simp only [Option.bind_some, if_pos h2, h3, Option.map_some]

/-- What append does. -/
theorem Own.append' (o : Own h L v n k e cs) {t t' : TypeId} {ti : TI} (hs : selem P t = some e) (hi : tinfo P e = some ti) (hk : ti.size = k) (hz : ti.zero.length = ti.size) {x : Value} {m : Nat} {ys : List Value} (hnews : aSrc P t t' x ti.size h = some (m, ys)) (hyl : ys.length = m * k) (hys : ∀ v ∈ ys, isCell v = true)
    (hm : 0 < m) (hb : (n + m) * ti.bytes ≤ 140737488355328) (hc : n + m ≤ 4611686018427387904) (hL : L ≤ h.length) :
    ∃ v' h', aAppend P t t' v x h = some (v', h') ∧ Own h' L v' (n + m) k e (cs ++ ys) ∧ (0 < n → Only (sid v) h h') ∧ (n = 0 → ∃ o, h' = h ++ [o]) ∧ h'.length = h.length + 1 ∧ sid v' = h.length := by
  subst hk
  have hcell : ys.all isCell = true := List.all_eq_true.2 hys
  have hm0 : ¬ m = 0 := by omega
  rcases o.sh with ⟨rfl, hv⟩ | ⟨hn, id, rfl, hLi, ho⟩
  · have hcs : cs = [] := by have := o.len; simpa using this
    subst hcs
    have own : ∀ h0 : AHeap, h0.length = h.length → Own (h0 ++ [⟨ys, e, true⟩]) L (.slice (some ⟨h.length, 0, none⟩) (0 + m) big) (0 + m) ti.size e ([] ++ ys) := by
      intro h0 hh
      refine ⟨by simpa using hyl, .inr ⟨by omega, h.length, rfl, hL, ?_⟩, by simpa using hys⟩
      rw [← hh]; simp
    rcases hv with rfl | ⟨id, rfl, h1, h2⟩
    · refine ⟨_, h ++ [⟨ys, e, true⟩], ?_, own h rfl, fun h => by omega, fun _ => ⟨_, rfl⟩, by simp, rfl⟩
      simp only [aAppend, hs, hi, hnews, Option.bind_some]
      rw [if_neg hm0, if_pos ⟨hcell, hz⟩, if_pos ⟨by simpa using hb, by omega⟩]
      simp [hnew]
    · refine ⟨_, h ++ [⟨ys, e, true⟩], ?_, own h rfl, fun h => by omega, fun _ => ⟨_, rfl⟩, by simp, rfl⟩
      simp only [aAppend, hs, hi, hnews, Option.bind_some]
      rw [if_neg hm0, if_pos ⟨hcell, hz⟩, if_pos ⟨hb, hc⟩, if_neg (by decide), if_neg (by omega)]
      have : hread h id 0 (0 * ti.size) = some [] := by
        rw [hread_rd]
        have : rd h id = some (h[id]).cells := rd_of (by simp [h2])
        rw [this]; simp
      rw [this]
      simp [hnew]
  · refine ⟨.slice (some ⟨h.length, 0, none⟩) (n + m) big, h.set id dead ++ [⟨cs ++ ys, e, true⟩], ?_, ⟨?_, .inr ⟨by omega, h.length, rfl, hL, ?_⟩, ?_⟩, fun _ => (Only.set id h dead).trans (Only.app _ _ _), fun h => by omega, by simp, rfl⟩
    · simp only [aAppend, hs, hi, hnews, Option.bind_some]
      rw [if_neg hm0, if_pos ⟨hcell, hz⟩, if_pos ⟨hb, hc⟩, if_pos trivial, ho]
      simp only [Option.bind_some]
      rw [if_pos ⟨trivial, hn, o.len, trivial, trivial⟩]
    · rw [List.length_append, o.len, hyl, Nat.add_mul]
    · have : (h.set id dead).length = h.length := by simp
      rw [← this]; simp
    · intro v hv
      rcases List.mem_append.1 hv with h | h
      · exact o.cells v h
      · exact hys v h
theorem aSrc_same (P : Program) (t : TypeId) (x : Value) (size : Nat) (h : AHeap) : aSrc P t t x size h = aNews x size h := by simp [aSrc]
theorem Own.append (o : Own h L v n k e cs) {t : TypeId} {ti : TI} (hs : selem P t = some e) (hi : tinfo P e = some ti) (hk : ti.size = k) (hz : ti.zero.length = ti.size) {x : Value} {m : Nat} {ys : List Value} (hx : Row h x m k ys) (hys : ∀ v ∈ ys, isCell v = true)
    (hm : 0 < m) (hb : (n + m) * ti.bytes ≤ 140737488355328) (hc : n + m ≤ 4611686018427387904) (hL : L ≤ h.length) :
    ∃ v' h', aAppend P t t v x h = some (v', h') ∧ Own h' L v' (n + m) k e (cs ++ ys) ∧ (0 < n → Only (sid v) h h') ∧ (n = 0 → ∃ o, h' = h ++ [o]) ∧ h'.length = h.length + 1 ∧ sid v' = h.length := by
  subst hk
  refine o.append' hs hi rfl hz ?_ hx.len hys hm hb hc hL
  rw [aSrc_same]
  rcases news_row hx with ⟨ys', h1, h2⟩ | h0
  · rw [h1, h2 hm]
  · omega
/-- append of a string's bytes. -/
theorem Own.appendS (o : Own h L v n 1 e cs) {t t' : TypeId} {ti : TI} (hs : selem P t = some e) (ht : ¬ t = t') (hst : isStrT P t' = true) (hi : tinfo P e = some ti) (hk : ti.size = 1) (hz : ti.zero.length = ti.size) {x : List UInt8}
    (hm : 0 < x.length) (hb : (n + x.length) * ti.bytes ≤ 140737488355328) (hc : n + x.length ≤ 4611686018427387904) (hL : L ≤ h.length) :
    ∃ v' h', aAppend P t t' v (str x) h = some (v', h') ∧ Own h' L v' (n + x.length) 1 e (cs ++ x.map fun b => .int .u8 b.toNat) ∧ (0 < n → Only (sid v) h h') ∧ (n = 0 → ∃ o, h' = h ++ [o]) ∧ h'.length = h.length + 1 ∧ sid v' = h.length := by
  refine o.append' hs hi hk hz ?_ (by simp) (by simp; intro b _; rfl) hm hb hc hL
  simp [aSrc, ht, str, hst, hk, byteCells, ByteArray.size]
/-- append of nothing. -/
theorem append_none {t : TypeId} {ti : TI} (hs : selem P t = some e) (hi : tinfo P e = some ti) (hk : ti.size = k) (o : Own h L v n k e cs) {x : Value} {ys : List Value} (hx : Row h x 0 k ys) (hx' : x = .slice none 0 0 ∨ ∃ id off c, x = .slice (some ⟨id, off, none⟩) 0 c ∧ ∃ zs, rd h id = some zs ∧ off ≤ zs.length) : aAppend P t t v x h = some (v, h) := by
  subst hk
  have hnews : ∃ ys', aNews x ti.size h = some (0, ys') := by
    rcases hx' with rfl | ⟨id, off, c, rfl, zs, hz, hoff⟩
    · exact ⟨[], rfl⟩
    · refine ⟨[], ?_⟩
      simp only [aNews]
      rw [hread_rd, hz]
      simp [hoff]
  obtain ⟨ys', hnews⟩ := hnews
  simp only [aAppend, aSrc_same, hs, hi, hnews, Option.bind_some]
  rcases o.sh with ⟨rfl, rfl | ⟨id, rfl, _, _⟩⟩ | ⟨hn, id, rfl, _, _⟩ <;> simp
end
/-- Of two parts of a heap, the first one stays. -/
theorem Only.split {id : Nat} {h t h' : AHeap} (x : Only id (h ++ t) h') (hi : h.length ≤ id) : ∃ t', h' = h ++ t' ∧ t.length ≤ t'.length := by
  refine ⟨h'.drop h.length, ?_, ?_⟩
  · apply List.ext_getElem?
    intro k
    by_cases hk : k < h.length
    · rw [List.getElem?_append_left hk, x.same k (by simp; omega) (by omega), List.getElem?_append_left hk]
    · rw [List.getElem?_append_right (by omega), List.getElem?_drop]
      congr 1; omega
  · have := x.len; simp at this ⊢; omega
/-- One more thing, that has just been built, behind a slice of one's own. -/
theorem Own.push {P : Program} {g t : AHeap} {L n k : Nat} {v : Value} {e : TypeId} {cs zs : List Value} (o : Own (g ++ t) L v n k e cs) (hg : g.length = L) {ty : TypeId} {ti : TI} (hs : selem P ty = some e) (hi : tinfo P e = some ti) (hk : ti.size = k) (hz : ti.zero.length = ti.size)
    (hzl : zs.length = k) (hzc : ∀ v ∈ zs, isCell v = true) (hb : (n + 1) * ti.bytes ≤ 140737488355328) (hc : n + 1 ≤ 4611686018427387904) :
    ∃ v' t', aAppend P ty ty v (.slice (some ⟨L + t.length, 0, none⟩) 1 1) (g ++ (t ++ [⟨zs, e, true⟩])) = some (v', g ++ t') ∧ Own (g ++ t') L v' (n + 1) k e (cs ++ zs) ∧ (∀ j, j < t.length → (0 < n → L + j ≠ sid v) → t'[j]? = t[j]?) ∧ t.length ≤ t'.length := by
  have e1 : g ++ (t ++ [⟨zs, e, true⟩]) = (g ++ t) ++ [⟨zs, e, true⟩] := by simp
  have o2 := o.app [⟨zs, e, true⟩]
  have hx : Row ((g ++ t) ++ [⟨zs, e, true⟩]) (.slice (some ⟨L + t.length, 0, none⟩) 1 1) 1 k zs := by
    refine Row.new ?_ (by omega)
    rw [← hg, ← List.length_append]
    exact rd_new (g ++ t) ⟨zs, e, true⟩ []
  obtain ⟨v', h', ha, ho, h1, h2, h3, h4⟩ := o2.append hs hi hk hz hx hzc (by omega) hb hc (by simp; omega)
  rw [e1]
  rcases Nat.eq_zero_or_pos n with h0 | hn
  · obtain ⟨ob, rfl⟩ := h2 h0
    refine ⟨v', t ++ [⟨zs, e, true⟩] ++ [ob], by rw [ha]; simp, by simpa using ho, fun j hj _ => ?_, by simp⟩
    rw [List.append_assoc, List.getElem?_append_left hj]
  · have hon := h1 hn
    have hL : L ≤ sid v := (o.sid_lt hn).1
    rw [List.append_assoc] at hon
    obtain ⟨t', rfl, ht'⟩ := hon.split (by omega)
    refine ⟨v', t', ha, ho, fun j hj hne => ?_, by simp at ht'; omega⟩
    have := hon.same (L + j) (by simp; omega) (hne hn)
    rw [List.getElem?_append_right (by omega), List.getElem?_append_right (by omega)] at this
    rw [show L + j - g.length = j by omega] at this
    rw [this, List.getElem?_append_left hj]
end Go.AM

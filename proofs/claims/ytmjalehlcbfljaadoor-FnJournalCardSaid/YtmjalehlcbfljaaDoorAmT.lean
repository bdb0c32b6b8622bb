/- A part of the abstract machine's laws: steps, calls and loops over abstract heaps. -/
import Derived.Test.YtmjalehlcbfljaaDoorAmS
set_option linter.unusedSectionVars false
set_option linter.defProp false
set_option linter.unusedVariables false
set_option linter.unusedSimpArgs false
set_option linter.unnecessarySimpa false
namespace Go.AM
open Go
variable [Ground]

/-! ### slices whose parts are known -/
def sid : Value → Nat
  | .slice (some a) _ _ => a.block
  | _ => 0
def soff : Value → Nat
  | .slice (some a) _ _ => a.off
  | _ => 0
/-- v is a slice of n things of k cells; xs: the cells. -/
structure Row (h : AHeap) (v : Value) (n k : Nat) (xs : List Value) : Prop where
  len : xs.length = n * k
  shape : (v = .slice none 0 0 ∧ n = 0) ∨ ∃ c, v = .slice (some ⟨sid v, soff v, none⟩) n c
  cells : 0 < n → ∃ cs, rd h (sid v) = some cs ∧ soff v + n * k ≤ cs.length ∧ (cs.drop (soff v)).take (n * k) = xs
  cap : ∀ a m c, v = .slice a m c → c = big ∨ m ≤ c

section
variable {P : Program} {h : AHeap} {v : Value} {n k : Nat} {xs : List Value}

theorem Row.nil (h : AHeap) (k : Nat) : Row h (.slice none 0 0) 0 k [] := ⟨by simp, .inl ⟨rfl, rfl⟩, fun h => by omega, fun a m c h => by cases h; exact .inr (Nat.le_refl _)⟩
theorem Row.mk' {id off c : Nat} {cs : List Value} (hr : rd h id = some cs) (hl : xs.length = n * k) (ho : off + n * k ≤ cs.length) (ht : (cs.drop off).take (n * k) = xs) (hc : c = big ∨ n ≤ c) : Row h (.slice (some ⟨id, off, none⟩) n c) n k xs :=
  ⟨hl, .inr ⟨c, rfl⟩, fun _ => ⟨cs, hr, ho, ht⟩, fun a m c h => by cases h; exact hc⟩
theorem Row.new {id c : Nat} (hr : rd h id = some xs) (hl : xs.length = n * k) (hc : c = big ∨ n ≤ c := by first | exact .inr (Nat.le_refl _) | exact .inl rfl | exact .inr (by omega)) : Row h (.slice (some ⟨id, 0, none⟩) n c) n k xs :=
  Row.mk' hr hl (by omega) (by simp [← hl]) hc
theorem Row.lt (r : Row h v n k xs) (hn : 0 < n) : sid v < h.length := by
  obtain ⟨cs, h1, _⟩ := r.cells hn
  exact rd_lt h1
theorem Row.congr {h' : AHeap} (r : Row h v n k xs) (hh : 0 < n → rd h' (sid v) = rd h (sid v)) : Row h' v n k xs :=
  ⟨r.len, r.shape, fun hn => by
    obtain ⟨cs, h1, h2, h3⟩ := r.cells hn
    exact ⟨cs, by rw [hh hn, h1], h2, h3⟩, r.cap⟩
theorem Row.app (r : Row h v n k xs) (t : AHeap) : Row (h ++ t) v n k xs := r.congr fun hn => rd_app (r.lt hn) t
theorem Row.frz (r : Row h v n k xs) : Row (frz h) v n k xs := r.congr fun _ => rd_frz _ _
theorem Row.alen (r : Row h v n k xs) (t : TypeId) : aLen P t v = (selem P t).bind fun _ => some (.int .i64 n) := by
  rcases r.shape with ⟨rfl, rfl⟩ | ⟨c, hv⟩
  · rw [l_len]
  · rw [hv, l_len]
theorem Row.idx (r : Row h v n k xs) (t : TypeId) (ik : IntKind) (j : Int) (hj : 0 ≤ j ∧ j < (n : Int)) :
    aIndexAddr P t v (.int ik j) = (selem P t).bind fun e => (tinfo P e).bind fun ti => some (.pointer (some ⟨sid v, soff v + j.toNat * ti.size, none⟩)) := by
  rcases r.shape with ⟨rfl, rfl⟩ | ⟨c, hv⟩
  · omega
  · have := l_idx (P := P) t (sid v) (soff v) n c ik j hj; rw [← hv] at this; exact this
theorem Row.cell (r : Row h v n k xs) (j : Nat) (hj : j < n * k) : (rd h (sid v)).bind (·[soff v + j]?) = some (xs.getD j undef) := by
  have hn : 0 < n := by rcases Nat.eq_zero_or_pos n with h | h; · subst h; omega
                        · exact h
  obtain ⟨cs, h1, h2, h3⟩ := r.cells hn
  rw [h1, ← h3]
  simp only [Option.bind_some, List.getD_eq_getElem?_getD]
  rw [List.getElem?_take_of_lt hj, List.getElem?_drop, List.getElem?_eq_getElem (by omega)]
  rfl
theorem Row.cell1 (r : Row h v n 1 xs) (j : Int) (hj : 0 ≤ j ∧ j < (n : Int)) : (rd h (sid v)).bind (·[soff v + j.toNat]?) = some (xs.getD j.toNat undef) := r.cell _ (by omega)
/-- A thing of k cells. -/
theorem Row.agg (r : Row h v n k xs) (j : Int) (hj : 0 ≤ j ∧ j < (n : Int)) :
    ((rd h (sid v)).bind fun cs => if soff v + j.toNat * k + k ≤ cs.length then some (Value.agg ((cs.drop (soff v + j.toNat * k)).take k).toArray) else none) = some (.agg ((xs.drop (j.toNat * k)).take k).toArray) := by
  have hjn : j.toNat < n := by omega
  obtain ⟨cs, h1, h2, h3⟩ := r.cells (by omega)
  have h4 : j.toNat * k + k ≤ n * k := by rw [← Nat.succ_mul]; exact Nat.mul_le_mul_right k hjn
  rw [h1]
  simp only [Option.bind_some]
  rw [if_pos (by omega), ← h3]
  congr 3
  rw [List.drop_take, List.take_take, List.drop_drop, Nat.min_eq_left (by omega)]
end

/-! ### one object changes -/
/-- Only the object id may have changed, and there may be new ones. -/
structure Only (id : Nat) (h h' : AHeap) : Prop where
  len : h.length ≤ h'.length
  same : ∀ k, k < h.length → k ≠ id → h'[k]? = h[k]?
theorem Only.refl (id : Nat) (h : AHeap) : Only id h h := ⟨Nat.le_refl _, fun _ _ _ => rfl⟩
theorem Only.trans {id : Nat} {a b c : AHeap} (x : Only id a b) (y : Only id b c) : Only id a c :=
  ⟨Nat.le_trans x.len y.len, fun k h1 h2 => (y.same k (Nat.lt_of_lt_of_le h1 x.len) h2).trans (x.same k h1 h2)⟩
theorem Only.app (id : Nat) (h t : AHeap) : Only id h (h ++ t) := ⟨by simp, fun k h1 _ => List.getElem?_append_left h1⟩
theorem Only.set (id : Nat) (h : AHeap) (o : AObj) : Only id h (h.set id o) := ⟨by simp, fun k _ h2 => List.getElem?_set_ne (Ne.symm h2)⟩
theorem Only.rd {id : Nat} {h h' : AHeap} (x : Only id h h') {k : Nat} (h1 : k < h.length) (h2 : k ≠ id) : rd h' k = rd h k := by unfold AM.rd; rw [x.same k h1 h2]
theorem Only.row {id : Nat} {h h' : AHeap} (x : Only id h h') {v : Value} {n k : Nat} {xs : List Value} (r : Row h v n k xs) (hne : 0 < n → sid v ≠ id) : Row h' v n k xs :=
  r.congr fun hn => x.rd (r.lt hn) (hne hn)

theorem Only.row' {id : Nat} {h h' t : AHeap} (x : Only id h h') (hl : h'.length = h.length) {v : Value} {n k : Nat} {xs : List Value} (r : Row (h ++ t) v n k xs) (hne : 0 < n → sid v ≠ id) : Row (h' ++ t) v n k xs :=
  r.congr fun hn => by
    unfold AM.rd
    by_cases hk : sid v < h.length
    · rw [List.getElem?_append_left (by omega), List.getElem?_append_left hk, x.same _ hk (hne hn)]
    · rw [List.getElem?_append_right (by omega), List.getElem?_append_right (by omega), hl]
theorem rd_set_self {h : AHeap} {id : Nat} (hl : id < h.length) (o : AObj) : rd (h.set id o) id = some o.cells := by
  unfold rd; rw [List.getElem?_set_self hl]; rfl
theorem rd_set_ne {h : AHeap} {id k : Nat} (hne : ¬ id = k) (o : AObj) : rd (h.set id o) k = rd h k := by
  unfold rd; rw [List.getElem?_set_ne hne]
theorem rd_of {h : AHeap} {id : Nat} {o : AObj} (ho : h[id]? = some o) : rd h id = some o.cells := by unfold rd; rw [ho]; rfl
theorem hset_of {h : AHeap} {id : Nat} {cs : List Value} {e : TypeId} (ho : h[id]? = some ⟨cs, e, true⟩) (off : Nat) (vs : List Value) :
    hset h id off vs = if off + vs.length ≤ cs.length then some (h.set id ⟨cs.take off ++ vs ++ cs.drop (off + vs.length), e, true⟩) else none := by
  unfold hset; rw [ho]; simp
theorem hset_set {h : AHeap} {id : Nat} (hl : id < h.length) (cs : List Value) (e : TypeId) (off : Nat) (vs : List Value) :
    hset (h.set id ⟨cs, e, true⟩) id off vs = if off + vs.length ≤ cs.length then some (h.set id ⟨cs.take off ++ vs ++ cs.drop (off + vs.length), e, true⟩) else none := by
  rw [hset_of (List.getElem?_set_self hl)]; simp only [List.set_set]

theorem Only.at {id : Nat} {h h' : AHeap} (x : Only id h h') {k : Nat} {o : AObj} (hk : h[k]? = some o) (hne : k ≠ id) : h'[k]? = some o := by
  rw [x.same k (List.getElem?_eq_some_iff.1 hk).1 hne, hk]
theorem at_lt {h : AHeap} {k : Nat} {o : AObj} (hk : h[k]? = some o) : k < h.length := (List.getElem?_eq_some_iff.1 hk).1
theorem at_new (h : AHeap) (o : AObj) (t : AHeap) : (h ++ o :: t)[h.length]? = some o := by simp
theorem at_app {h : AHeap} {k : Nat} {o : AObj} (hk : h[k]? = some o) (t : AHeap) : (h ++ t)[k]? = some o := by rw [List.getElem?_append_left (at_lt hk), hk]
theorem rd_at {h : AHeap} {L : Nat} (hL : h.length = L) (t : AHeap) (k : Nat) : rd (h ++ t) (L + k) = rd t k := by subst hL; exact rd_new' h k t
theorem rd_at0 {h : AHeap} {L : Nat} (hL : h.length = L) (t : AHeap) : rd (h ++ t) L = rd t 0 := by subst hL; exact rd_new' h 0 t
theorem hset_at {h : AHeap} {L : Nat} (hL : h.length = L) (t : AHeap) (k off : Nat) (vs : List Value) : hset (h ++ t) (L + k) off vs = (hset t k off vs).map (h ++ ·) := by subst hL; exact hset_new h t k off vs
theorem hset_at0 {h : AHeap} {L : Nat} (hL : h.length = L) (t : AHeap) (off : Nat) (vs : List Value) : hset (h ++ t) L off vs = (hset t 0 off vs).map (h ++ ·) := by subst hL; exact hset_new h t 0 off vs
theorem set_left {h : AHeap} {p : Nat} (hp : p < h.length) (o : AObj) (t : AHeap) : (h ++ t).set p o = h.set p o ++ t := List.set_append_left _ _ hp
/-! ### append to an own row -/
theorem l_buildSlice (P : Program) (t : TypeId) (len : Nat) (parts : List (Nat × Value)) (h : AHeap) : aBuildSlice P t len parts h = (selem P t).bind fun e => (tinfo P e).bind fun ti =>
    if len * ti.size ≤ 16777216 ∧ len ≤ 16777216 ∧ ti.zero.all flat = true ∧ ti.zero.length = ti.size then
      (aFill (fun i => some (i * ti.size, ti.size)) (aZeros ti.zero len) parts).map fun cs => (.slice (some ⟨h.length, 0, none⟩) len len, h ++ [⟨cs, e, true⟩])
    else none := Eq.trans rfl rfl
def isSeq : Nat → List (Nat × Value) → Bool
  | _, [] => true
  | i, (j, v) :: r => decide (j = i) && isCell v && isSeq (i + 1) r
def svals : List (Nat × Value) → List Value
  | [] => []
  | (_, v) :: r => v :: svals r
theorem isSeq_nil (i : Nat) : isSeq i [] = true := Eq.trans rfl rfl
theorem isSeq_cons (i j : Nat) (v : Value) (r : List (Nat × Value)) : isSeq i ((j, v) :: r) = (decide (j = i) && isCell v && isSeq (i + 1) r) := Eq.trans rfl rfl
theorem svals_nil : svals [] = [] := Eq.trans rfl rfl
theorem svals_cons (j : Nat) (v : Value) (r : List (Nat × Value)) : svals ((j, v) :: r) = v :: svals r := Eq.trans rfl rfl
theorem isCell_val {v : Value} (h : isCell v = true) : isVal v = true ∧ v.cells = #[v] := by
  cases v <;> first | exact ⟨rfl, rfl⟩ | cases h
theorem aFill_seq : ∀ (parts : List (Nat × Value)) (i : Nat) (cells : List Value), isSeq i parts = true → cells.length = i + parts.length → aFill (fun i => some (i * 1, 1)) cells parts = some (cells.take i ++ svals parts) := by
  intro parts
  induction parts with
  | nil => intro i cells _ hl; rw [aFill, svals, List.append_nil, List.take_of_length_le (by simp at hl; omega)]
  | cons p r ih =>
    intro i cells hs hl
    obtain ⟨j, v⟩ := p
    simp only [isSeq, Bool.and_eq_true, decide_eq_true_eq] at hs
    obtain ⟨⟨rfl, hc⟩, hs⟩ := hs
    obtain ⟨h1, h2⟩ := isCell_val hc
    simp only [List.length_cons] at hl
    rw [aFill]
    simp only [Option.bind_some, Nat.mul_one]
    rw [if_pos ⟨h1, by rw [h2]; rfl, by omega⟩, h2]
    have e := ih (j + 1) (cells.take j ++ #[v].toList ++ cells.drop (j + 1)) hs (by simp; omega)
    simp only [Nat.mul_one] at e
    rw [e]
    congr 1
    have e2 : (cells.take j ++ [v]).length = j + 1 := by simp; omega
    simp only [svals]
    rw [show cells.take j ++ [v] ++ cells.drop (j + 1) = (cells.take j ++ [v]) ++ cells.drop (j + 1) from rfl, List.take_append_of_le_length (by omega), List.take_of_length_le (by omega)]
    simp
def bsB (ti : TI) (e : TypeId) (len : Nat) (parts : List (Nat × Value)) (h : AHeap) : Option (Value × AHeap) :=
  if len * ti.size ≤ 16777216 ∧ len ≤ 16777216 ∧ ti.zero.all flat = true ∧ ti.zero.length = ti.size then
    (aFill (fun i => some (i * ti.size, ti.size)) (aZeros ti.zero len) parts).map fun cs => (.slice (some ⟨h.length, 0, none⟩) len len, h ++ [⟨cs, e, true⟩])
  else none
theorem l_bs (P : Program) (t : TypeId) (len : Nat) (parts : List (Nat × Value)) (h : AHeap) : aBuildSlice P t len parts h = (selem P t).bind fun e => (tinfo P e).bind fun ti => bsB ti e len parts h := Eq.trans rfl rfl
theorem bsB_one (agg : Bool) (bytes : Nat) (z : Value) (e : TypeId) (len : Nat) (parts : List (Nat × Value)) (h : AHeap) : bsB ⟨agg, 1, bytes, [z]⟩ e len parts h = if isSeq 0 parts = true ∧ parts.length = len ∧ len ≤ 16777216 ∧ flat z = true then some (.slice (some ⟨h.length, 0, none⟩) len len, h ++ [⟨svals parts, e, true⟩]) else bsB ⟨agg, 1, bytes, [z]⟩ e len parts h := by
  split
  · rename_i hc
    obtain ⟨h1, rfl, h3, h4⟩ := hc
    have hz : (aZeros [z] parts.length).length = parts.length := by
      unfold aZeros; rw [List.length_flatten]; simp
    have := aFill_seq parts 0 (aZeros [z] parts.length) h1 (by omega)
    unfold bsB
    simp only
    rw [if_pos ⟨by omega, h3, by simp [h4], rfl⟩, this]
    simp
  · rfl
theorem bsB_gen (agg : Bool) (k bytes : Nat) (zero : List Value) (e : TypeId) (len : Nat) (parts : List (Nat × Value)) (h : AHeap) : bsB ⟨agg, k + 2, bytes, zero⟩ e len parts h = if len * (k + 2) ≤ 16777216 ∧ len ≤ 16777216 ∧ zero.all flat = true ∧ zero.length = k + 2 then
    (aFill (fun i => some (i * (k + 2), k + 2)) (aZeros zero len) parts).map fun cs => (.slice (some ⟨h.length, 0, none⟩) len len, h ++ [⟨cs, e, true⟩])
  else none := Eq.trans rfl rfl
theorem aFill_nil (pl : Nat → Option (Nat × Nat)) (cells : List Value) : aFill pl cells [] = some cells := Eq.trans rfl rfl
def aFillB (pl : Nat → Option (Nat × Nat)) (cells : List Value) (v : Value) (r : List (Nat × Value)) : Option (Nat × Nat) → Option (List Value)
  | some os => if isVal v = true ∧ v.cells.size = os.2 ∧ os.1 + os.2 ≤ cells.length then aFill pl (cells.take os.1 ++ v.cells.toList ++ cells.drop (os.1 + os.2)) r else none
  | none => none
theorem aFill_cons (pl : Nat → Option (Nat × Nat)) (cells : List Value) (i : Nat) (v : Value) (r : List (Nat × Value)) : aFill pl cells ((i, v) :: r) = aFillB pl cells v r (pl i) := by
  rw [aFill, aFillB.eq_def]
  cases pl i <;> rfl
theorem aFillB_some (pl : Nat → Option (Nat × Nat)) (cells : List Value) (v : Value) (r : List (Nat × Value)) (a b : Nat) : aFillB pl cells v r (some (a, b)) = if isVal v = true ∧ v.cells.size = b ∧ a + b ≤ cells.length then aFill pl (cells.take a ++ v.cells.toList ++ cells.drop (a + b)) r else none := Eq.trans rfl rfl
theorem l_build (P : Program) (t : TypeId) (parts : List (Nat × Value)) : aBuild P t parts = (tinfo P t).bind fun ti => (places P t).bind fun pl => if ti.zero.all flat = true then (aFill (pl[·]?) ti.zero parts).map fun cs => .agg cs.toArray else none := Eq.trans rfl rfl
end Go.AM

/- A part of the abstract machine's laws: steps, calls and loops over abstract heaps. -/
import Derived.Test.YtmjalehlcbfljaaDoorAmV
import Derived.Test.YtmjalehlcbfljaaDoorAmBig
set_option linter.unusedSectionVars false
set_option linter.defProp false
set_option linter.unusedVariables false
set_option linter.unusedSimpArgs false
set_option linter.unnecessarySimpa false
namespace Go.AM
open Go
variable [Ground]

/-! ### slices of slices -/
def scap : Value → Nat
  | .slice _ _ c => c
  | _ => 0
/-- The slice from lo to hi, of things of k cells. -/
def slc (v : Value) (lo hi k : Nat) : Value := match v with
  | .slice (some a) _ c => .slice (some ⟨a.block, a.off + lo * k, none⟩) (hi - lo) (if c = big then big else c - lo)
  | _ => .slice none 0 0
section
variable {P : Program} {h : AHeap} {v : Value} {n k : Nat} {xs : List Value}
theorem Row.slc (r : Row h v n k xs) {lo hi : Nat} (h1 : lo ≤ hi) (h2 : hi ≤ n) : Row h (slc v lo hi k) (hi - lo) k ((xs.drop (lo * k)).take ((hi - lo) * k)) := by
  have hmul : lo * k + (hi - lo) * k ≤ n * k := by rw [← Nat.add_mul]; exact Nat.mul_le_mul_right k (by omega)
  rcases r.shape with ⟨rfl, rfl⟩ | ⟨c, hv⟩
  · have : hi - lo = 0 := by omega
    rw [this]
    simpa [AM.slc] using Row.nil h k
  · have hc := r.cap _ _ _ hv
    have e : AM.slc v lo hi k = .slice (some ⟨sid v, soff v + lo * k, none⟩) (hi - lo) (if c = big then big else c - lo) := by rw [hv]; rfl
    rw [e]
    refine ⟨by simp [r.len]; omega, .inr ⟨_, rfl⟩, fun hn => ?_, fun a m c' hh => ?_⟩
    · obtain ⟨cs, h3, h4, h5⟩ := r.cells (by omega)
      refine ⟨cs, h3, by show soff v + lo * k + (hi - lo) * k ≤ cs.length; omega, ?_⟩
      show List.take _ (List.drop (soff v + lo * k) cs) = _
      rw [← h5, List.drop_take, List.take_take, List.drop_drop, Nat.min_eq_left (by omega)]
    · cases hh
      split
      · exact .inl rfl
      · right; rcases hc with h | h
        · contradiction
        · omega
theorem Row.slice_lh (r : Row h v n k xs) (t : TypeId) (ik ik' : IntKind) (lo hi : Int) (h1 : 0 ≤ lo ∧ lo ≤ hi) (h2 : hi ≤ (n : Int)) : aSlice P t v (some (.int ik lo)) (some (.int ik' hi)) none = (selem P t).bind fun e => (tinfo P e).bind fun ti => some (AM.slc v lo.toNat hi.toNat ti.size) := by
  rcases r.shape with ⟨rfl, rfl⟩ | ⟨c, hv⟩
  · have : lo = 0 := by omega
    have : hi = 0 := by omega
    subst lo; subst hi
    simp only [aSlice, aBnd]
    cases selem P t with
    | none => rfl
    | some e => cases tinfo P e <;> simp [AM.slc]
  · have hc := r.cap _ _ _ hv
    generalize ho : soff v = off at hv
    generalize hid : sid v = id at hv
    subst hv
    simp only [aSlice, aBnd]
    congr 1; funext e; congr 1; funext ti
    by_cases hb : c = big
    · subst hb
      simp only [if_true, Option.isNone_none]
      rw [if_pos (by omega), Option.bind_some, if_pos (by omega), Option.map_some]
      simp [AM.slc]
    · have hcn : n ≤ c := by rcases hc with h | h; exact (hb h).elim; exact h
      simp only [if_neg hb, Option.bind_some]
      rw [if_pos (by omega), Option.bind_some, if_neg (by simp), if_pos (by omega), Option.map_some]
      simp [AM.slc, hb]
theorem Row.slice_h (r : Row h v n k xs) (t : TypeId) (ik' : IntKind) (hi : Int) (h2 : 0 ≤ hi ∧ hi ≤ (n : Int)) : aSlice P t v none (some (.int ik' hi)) none = (selem P t).bind fun e => (tinfo P e).bind fun ti => some (AM.slc v 0 hi.toNat ti.size) := by
  have := r.slice_lh (P := P) t ik' ik' 0 hi (by omega) h2.2
  rcases r.shape with ⟨rfl, rfl⟩ | ⟨c, hv⟩
  · rw [show (0 : Int).toNat = 0 from rfl] at this
    rw [← this]; simp only [aSlice, aBnd]; simp
  · rw [show (0 : Int).toNat = 0 from rfl] at this
    rw [← this, hv]; simp only [aSlice, aBnd]; simp
theorem Row.slice_l (r : Row h v n k xs) (t : TypeId) (ik : IntKind) (lo : Int) (h1 : 0 ≤ lo ∧ lo ≤ (n : Int)) : aSlice P t v (some (.int ik lo)) none none = (selem P t).bind fun e => (tinfo P e).bind fun ti => some (AM.slc v lo.toNat n ti.size) := by
  have := r.slice_lh (P := P) t ik ik lo n (by omega) (by omega)
  have hc := r.cap
  rcases r.shape with ⟨rfl, rfl⟩ | ⟨c, hv⟩
  · rw [show ((0 : Nat) : Int).toNat = 0 from rfl] at this
    rw [← this]; simp only [aSlice, aBnd]; simp
  · have hc := hc _ _ _ hv
    rw [show ((n : Nat) : Int).toNat = n from by omega] at this
    rw [← this, hv]; simp only [aSlice, aBnd]
    congr 1; funext e; congr 1; funext ti
    by_cases hb : c = big
    · simp [hb]
    · have hcn : n ≤ c := by rcases hc with h | h; exact (hb h).elim; exact h
      simp [hb, hcn]
end

/-! ### numbers of any size -/
/-- v is a row of the digits of x. -/
def Nt (K : IntKind) (B : Nat) (h : AHeap) (v : Value) (x : Nat) : Prop := Row h v (dg B x).length 1 ((dg B x).map fun d => .int K (d : Nat))
theorem Nt.app {K : IntKind} {B : Nat} {h : AHeap} {v : Value} {x : Nat} (n : Nt K B h v x) (t : AHeap) : Nt K B (h ++ t) v x := Row.app n t
theorem Nt.frz {K : IntKind} {B : Nat} {h : AHeap} {v : Value} {x : Nat} (n : Nt K B h v x) : Nt K B (AM.frz h) v x := Row.frz n
theorem dcell (K : IntKind) (l : List Nat) (j : Nat) (hj : j < l.length) : (l.map fun d => Value.int K (d : Nat)).getD j undef = .int K (l.getD j 0) := by
  simp [List.getD_eq_getElem?_getD, hj]
end Go.AM
namespace Go.AM
open Go
variable [Ground]
/-! ### make, and stores into rows of one cell -/
def zrow (z : List Value) (n : Nat) : List Value := aZeros z n
theorem zrow1 (v : Value) (n : Nat) : zrow [v] n = List.replicate n v := by
  unfold zrow aZeros
  induction n with
  | zero => rfl
  | succ n ih => simp [List.replicate_succ]
def aMk (ti : TI) (e : TypeId) (l c : Int) (h : AHeap) : Option (Value × AHeap) :=
  if 0 ≤ l ∧ l ≤ c ∧ c * ti.bytes ≤ 140737488355328 ∧ c ≤ 4611686018427387904 ∧ ti.zero.all flat = true ∧ ti.zero.length = ti.size then
    some (.slice (some ⟨h.length, 0, none⟩) l.toNat c.toNat, h ++ [⟨zrow ti.zero c.toNat, e, true⟩]) else none
theorem l_make (P : Program) (t : TypeId) (k k' : IntKind) (l c : Int) (h : AHeap) : aMake P t (.int k l) (.int k' c) h = (selem P t).bind fun e => (tinfo P e).bind fun ti => aMk ti e l c h := Eq.trans rfl rfl
theorem l_mk (agg : Bool) (size bytes : Nat) (zero : List Value) (e : TypeId) (l c : Int) (h : AHeap) (hc : 0 ≤ l ∧ l ≤ c ∧ c * bytes ≤ 140737488355328 ∧ c ≤ 4611686018427387904) :
    aMk ⟨agg, size, bytes, zero⟩ e l c h = if zero.all flat = true ∧ zero.length = size then some (.slice (some ⟨h.length, 0, none⟩) l.toNat c.toNat, h ++ [⟨zrow zero c.toNat, e, true⟩]) else none := by
  unfold aMk
  by_cases h2 : zero.all flat = true ∧ zero.length = size
  · rw [if_pos h2, if_pos ⟨hc.1, hc.2.1, hc.2.2.1, hc.2.2.2, h2.1, h2.2⟩]
  · rw [if_neg h2, if_neg]
    rintro ⟨_, _, _, _, h3, h4⟩
    exact h2 ⟨h3, h4⟩
theorem hset_one (cs : List Value) (e : TypeId) (t : AHeap) (off : Nat) (v : Value) (ho : off < cs.length) : hset (⟨cs, e, true⟩ :: t) 0 off [v] = some (⟨cs.set off v, e, true⟩ :: t) := by
  rw [hset_c0, if_pos ⟨rfl, by simp; omega⟩]
  congr 3
  rw [List.set_eq_take_append_cons_drop, if_pos ho]; simp
theorem shr32 (a : Int) : a.fdiv (2 ^ min 32 64) = a / 4294967296 := by
  rw [show (2 ^ min 32 64 : Int) = 4294967296 from by decide, Int.fdiv_eq_ediv_of_nonneg _ (by omega)]
theorem shr30 (a : Int) : a.fdiv (2 ^ min 30 64) = a / 1073741824 := by
  rw [show (2 ^ min 30 64 : Int) = 1073741824 from by decide, Int.fdiv_eq_ediv_of_nonneg _ (by omega)]
theorem wrap_u32' (n : Int) : IntKind.u32.wrap n = n % 4294967296 := by simp [IntKind.wrap, IntKind.signed, IntKind.bits]
theorem HLe.of_eq {h h' : AHeap} (e : h = h') : HLe h h' := e ▸ HLe.refl h
theorem map_set_int (K : IntKind) (o : List Nat) (i d : Nat) : (o.map fun d => Value.int K (d : Nat)).set i (.int K (d : Nat)) = (o.set i d).map fun d => Value.int K (d : Nat) := by rw [List.map_set]
/-- A row of digits that is one's own. -/
theorem drow {h : AHeap} {K : IntKind} {id c n : Nat} {o : List Nat} (hr : rd h id = some (o.map fun d => Value.int K (d : Nat))) (hl : o.length = n) (hc : c = big ∨ n ≤ c := by first | exact .inr (Nat.le_refl _) | exact .inl rfl | exact .inr (by omega)) :
    Row h (.slice (some ⟨id, 0, none⟩) n c) n 1 (o.map fun d => Value.int K (d : Nat)) := Row.new hr (by simpa using hl) hc
end Go.AM

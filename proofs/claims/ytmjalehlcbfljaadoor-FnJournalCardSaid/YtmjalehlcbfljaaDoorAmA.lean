/- The abstract machine: its values and heaps, and what it means that a real world shows one; a call that is proved there holds in every such world. -/
import Derived.Tactics2
import Derived.Laws.AppendOwn
import Derived.Laws.NewBlocks
set_option linter.unusedSectionVars false
set_option linter.defProp false
set_option linter.unusedVariables false
set_option linter.unusedSimpArgs false
set_option linter.unnecessarySimpa false
namespace Go.AM
open Go

/-- A mark for a slot of which nothing is known. -/
def junk : Value := .float .f32 0
/-- A capacity of which nothing is known. -/
def big : Nat := 9223372036854775808

/-- Where an abstract object lies: its own block, or cells that came in. -/
structure Loc where
  block : Nat
  off : Nat
  own : Bool
  elem : TypeId
  size : Nat

structure AObj where
  cells : List Value
  elem : TypeId
  w : Bool

abbrev AHeap := List AObj
abbrev Inj := Nat → Option Loc

section
variable (P : Program)

inductive VR (ι : Inj) : Value → Value → Prop
  | junk (v : Value) : VR ι junk v
  | bool (b : Bool) : VR ι (.bool b) (.bool b)
  | int (k : IntKind) (n : Int) : VR ι (.int k n) (.int k n)
  | string (s : ByteArray) : VR ι (.string s) (.string s)
  | nilptr : VR ι (.pointer none) (.pointer none)
  | ptr (id off b o : Nat) (l : Loc) (h : ι id = some l) (hb : b = l.block) (ho : o = l.off + off) : VR ι (.pointer (some ⟨id, off, none⟩)) (.pointer (some ⟨b, o, none⟩))
  | nilslice : VR ι (.slice none 0 0) (.slice none 0 0)
  | slice (id off n c b o c' : Nat) (l : Loc) (h : ι id = some l) (hb : b = l.block) (ho : o = l.off + off ∨ (n = 0 ∧ c' = 0)) (hn : n ≤ c') (hm : c' ≤ maxLen)
      (hc : c = big ∨ c' = c) (hs : c = big → off = 0 → l.off = 0 ∧ c' * P.cellsOf l.elem ≤ l.size) : VR ι (.slice (some ⟨id, off, none⟩) n c) (.slice (some ⟨b, o, none⟩) n c')
  | nilfunc : VR ι .nilFunc .nilFunc
  | niliface : VR ι .nilIface .nilIface
  | iface (t : TypeId) (v v' : Value) (h : VR ι v v') : VR ι (.iface t v) (.iface t v')
  | func (fn : Fn) (a b c d : Array Value) (h1 : a.size = b.size) (h2 : ∀ (i : Nat) (x y : Value), a[i]? = some x → b[i]? = some y → VR ι x y) (h3 : c.size = d.size)
      (h4 : ∀ (i : Nat) (x y : Value), c[i]? = some x → d[i]? = some y → VR ι x y) : VR ι (.func fn a c) (.func fn b d)
  | agg (a b : Array Value) (h1 : a.size = b.size) (h2 : ∀ (i : Nat) (x y : Value), a[i]? = some x → b[i]? = some y → VR ι x y) : VR ι (.agg a) (.agg b)
  | tuple (a b : Array Value) (h1 : a.size = b.size) (h2 : ∀ (i : Nat) (x y : Value), a[i]? = some x → b[i]? = some y → VR ι x y) : VR ι (.tuple a) (.tuple b)

/-- ι' knows at least what ι knows. -/
def Sub (ι ι' : Inj) : Prop := ∀ k l, ι k = some l → ι' k = some l

theorem Sub.refl (ι : Inj) : Sub ι ι := fun _ _ h => h
theorem Sub.trans {a b c : Inj} (h : Sub a b) (h' : Sub b c) : Sub a c := fun k l e => h' k l (h k l e)

variable {P}
theorem VR.mono {ι ι' : Inj} (hs : Sub ι ι') {v v' : Value} (h : VR P ι v v') : VR P ι' v v' := by
  induction h with
  | junk v => exact .junk v
  | bool b => exact .bool b
  | int k n => exact .int k n
  | string s => exact .string s
  | nilptr => exact .nilptr
  | ptr id off b o l h hb ho => exact .ptr id off b o l (hs _ _ h) hb ho
  | nilslice => exact .nilslice
  | slice id off n c b o c' l h hb ho hn hm hc hs' => exact .slice id off n c b o c' l (hs _ _ h) hb ho hn hm hc hs'
  | nilfunc => exact .nilfunc
  | niliface => exact .niliface
  | iface t v v' _ ih => exact .iface t v v' ih
  | func fn a b c d h1 _ h3 _ ih2 ih4 => exact .func fn a b c d h1 ih2 h3 ih4
  | agg a b h1 _ ih => exact .agg a b h1 ih
  | tuple a b h1 _ ih => exact .tuple a b h1 ih

/-- A list of values, one by one. -/
def VRL (P : Program) (ι : Inj) (a b : List Value) : Prop := a.length = b.length ∧ ∀ (i : Nat) (x y : Value), a[i]? = some x → b[i]? = some y → VR P ι x y

theorem VRL.mono {ι ι' : Inj} (hs : Sub ι ι') {a b : List Value} (h : VRL P ι a b) : VRL P ι' a b := ⟨h.1, fun i x y hx hy => (h.2 i x y hx hy).mono hs⟩
theorem VRL.nil (ι : Inj) : VRL P ι [] [] := ⟨rfl, by simp⟩
theorem VRL.cons {ι : Inj} {x y : Value} {a b : List Value} (h : VR P ι x y) (hl : VRL P ι a b) : VRL P ι (x :: a) (y :: b) := by
  refine ⟨by simp [hl.1], fun i u v hu hv => ?_⟩
  cases i with
  | zero => simp at hu hv; subst hu; subst hv; exact h
  | succ i => simp at hu hv; exact hl.2 i u v hu hv
theorem VRL.append {ι : Inj} {a b c d : List Value} (h : VRL P ι a b) (h' : VRL P ι c d) : VRL P ι (a ++ c) (b ++ d) := by
  refine ⟨by simp [h.1, h'.1], fun i u v hu hv => ?_⟩
  by_cases hi : i < a.length
  · rw [List.getElem?_append_left hi] at hu
    rw [List.getElem?_append_left (by rw [← h.1]; exact hi)] at hv
    exact h.2 i u v hu hv
  · rw [List.getElem?_append_right (by omega)] at hu
    rw [List.getElem?_append_right (by rw [← h.1]; omega), ← h.1] at hv
    exact h'.2 _ u v hu hv
theorem VRL.take {ι : Inj} {a b : List Value} (h : VRL P ι a b) (n : Nat) : VRL P ι (a.take n) (b.take n) := by
  refine ⟨by simp [h.1], fun i u v hu hv => ?_⟩
  rw [List.getElem?_take] at hu hv
  split at hu
  · rename_i hi; rw [if_pos hi] at hv; exact h.2 i u v hu hv
  · cases hu
theorem VRL.drop {ι : Inj} {a b : List Value} (h : VRL P ι a b) (n : Nat) : VRL P ι (a.drop n) (b.drop n) := by
  refine ⟨by simp [h.1], fun i u v hu hv => ?_⟩
  rw [List.getElem?_drop] at hu hv
  exact h.2 _ u v hu hv
theorem VRL.get {ι : Inj} {a b : List Value} (h : VRL P ι a b) (i : Nat) {x : Value} (hx : a[i]? = some x) : ∃ y, b[i]? = some y ∧ VR P ι x y := by
  obtain ⟨hl, _⟩ := List.getElem?_eq_some_iff.1 hx
  have : i < b.length := by rw [← h.1]; exact hl
  exact ⟨b[i], by simp [this], h.2 i _ _ hx (by simp [this])⟩
theorem VRL.set {ι : Inj} {a b : List Value} (h : VRL P ι a b) (i : Nat) {x y : Value} (hx : VR P ι x y) : VRL P ι (a.set i x) (b.set i y) := by
  refine ⟨by simp [h.1], fun j u v hu hv => ?_⟩
  rw [List.getElem?_set] at hu hv
  by_cases hj : i = j
  · subst hj
    simp only [if_true] at hu hv
    split at hu <;> split at hv <;> simp_all
  · rw [if_neg hj] at hu hv; exact h.2 j u v hu hv

/-- What is known of the library's variables: it looks at blocks below 'lim' alone. -/
class Ground where
  lim : Nat
  ok : World → Prop
  keep : ∀ w w' : World, (∀ b, b < lim → w'.heap[b]? = w.heap[b]?) → ok w → ok w'
variable [Ground]

/-- What is asked of all places together: own blocks are apart, from 'base' on; what came in lies below. -/
structure Inv (base : Nat) (ι : Inj) (w : World) : Prop where
  le : base ≤ w.heap.size
  lt : ∀ k l, ι k = some l → l.block < w.heap.size
  own : ∀ k l, ι k = some l → l.own = true → base ≤ l.block ∧ l.off = 0
  ro : ∀ k l, ι k = some l → l.own = false → l.block < base
  gl : Ground.lim ≤ base ∧ Ground.ok w
theorem Inv.gl' {base : Nat} {ι : Inj} {w w' : World} (hi : Inv base ι w) (hh : ∀ b, b < base → w'.heap[b]? = w.heap[b]?) : Ground.lim ≤ base ∧ Ground.ok w' :=
  ⟨hi.gl.1, Ground.keep w w' (fun b hb => hh b (Nat.lt_of_lt_of_le hb hi.gl.1)) hi.gl.2⟩

/-- An object lies at a place. -/
structure ObjOK (P : Program) (ι : Inj) (o : AObj) (l : Loc) (w : World) : Prop where
  own : o.w = true → l.own = true ∧ l.elem = o.elem ∧ ∃ cs, w.heap[l.block]? = some (.cells cs o.elem (0, 0)) ∧ o.cells.length ≤ cs.size ∧ cs.size = l.size
  cells : ∀ i v, o.cells[i]? = some v → ∃ v', w.cell? ⟨l.block, l.off + i, none⟩ = some v' ∧ VR P ι v v'

def AObj.live (o : AObj) : Prop := o.w = true ∨ o.cells ≠ []

/-- No other object that lives lies in the block of one that can be written. -/
def Apart (ι : Inj) (h : AHeap) : Prop := ∀ j k oj ok l m, j ≠ k → h[j]? = some oj → h[k]? = some ok → ok.w = true → oj.live → ι j = some l → ι k = some m → l.block ≠ m.block

structure HR (P : Program) (ι : Inj) (h : AHeap) (w : World) : Prop where
  obj : ∀ k o l, h[k]? = some o → ι k = some l → ObjOK P ι o l w
  apart : Apart ι h

/-- Only blocks of writable objects are changed. -/
structure Upd (ι ι' : Inj) (h h' : AHeap) (w w' : World) : Prop where
  len : h.length ≤ h'.length
  out : ∀ k, ¬ (h.length ≤ k ∧ k < h'.length) → ι' k = ι k
  new : ∀ k l, h.length ≤ k → k < h'.length → ι' k = some l → w.heap.size ≤ l.block ∨ ∃ j o m, h[j]? = some o ∧ o.w = true ∧ ι j = some m ∧ m.block = l.block
  wr : ∀ k o', k < h.length → h'[k]? = some o' → o'.w = true → ∃ o, h[k]? = some o ∧ o.w = true
  size : w.heap.size ≤ w'.heap.size
  tape : w'.tape = w.tape
  os : w'.os = w.os
  output : w'.output = w.output
  block : ∀ b, b < w.heap.size → (∃ k o l, h[k]? = some o ∧ o.w = true ∧ ι k = some l ∧ l.block = b) ∨ w'.heap[b]? = w.heap[b]?

theorem Upd.refl (ι : Inj) (h : AHeap) (w : World) : Upd ι ι h h w w :=
  ⟨Nat.le_refl _, fun _ _ => rfl, fun k l h1 h2 => by omega, fun _ o' _ h hw => ⟨o', h, hw⟩, Nat.le_refl _, rfl, rfl, rfl, fun _ _ => .inr rfl⟩

/-- Nothing lies at the places from a to b. -/
def Free (ι : Inj) (a b : Nat) : Prop := ∀ k, a ≤ k → k < b → ι k = none

theorem Upd.sub {ι ι' : Inj} {h h' : AHeap} {w w' : World} (u : Upd ι ι' h h' w w') (hf : Free ι h.length h'.length) : Sub ι ι' := by
  intro k l hk
  by_cases hh : h.length ≤ k ∧ k < h'.length
  · rw [hf k hh.1 hh.2] at hk; cases hk
  · rw [u.out k hh]; exact hk

theorem Upd.free {ι ι' : Inj} {h h' : AHeap} {w w' : World} (u : Upd ι ι' h h' w w') {N : Nat} (hf : Free ι h.length N) : Free ι' h'.length N := by
  intro k h1 h2
  rw [u.out k (by omega)]
  exact hf k (Nat.le_trans u.len h1) h2

theorem Upd.trans {ι ι1 ι2 : Inj} {h h1 h2 : AHeap} {w w1 w2 : World} (a : Upd ι ι1 h h1 w w1) (b : Upd ι1 ι2 h1 h2 w1 w2) : Upd ι ι2 h h2 w w2 := by
  refine ⟨Nat.le_trans a.len b.len, fun k hk => ?_, fun k l h1' h2' hk => ?_, fun k o' hk ho hw => ?_, Nat.le_trans a.size b.size, b.tape.trans a.tape, b.os.trans a.os, b.output.trans a.output, fun bl hb => ?_⟩
  · rw [b.out k (fun hh => hk ⟨Nat.le_trans a.len hh.1, hh.2⟩), a.out k (fun hh => hk ⟨hh.1, Nat.lt_of_lt_of_le hh.2 b.len⟩)]
  · by_cases hk1 : k < h1.length
    · rw [b.out k (by omega)] at hk; exact a.new k l h1' hk1 hk
    · rcases b.new k l (by omega) h2' hk with hh | ⟨j, o, m, hj, hw, hm, hb⟩
      · exact .inl (Nat.le_trans a.size hh)
      · by_cases hj0 : j < h.length
        · obtain ⟨o0, ho0, hw0⟩ := a.wr j o hj0 hj hw
          exact .inr ⟨j, o0, m, ho0, hw0, by rw [← a.out j (by omega)]; exact hm, hb⟩
        · have hj1 := (List.getElem?_eq_some_iff.1 hj).1
          rcases a.new j m (by omega) hj1 hm with hh | hh
          · exact .inl (hb ▸ hh)
          · exact .inr (hb ▸ hh)
  · obtain ⟨o1, ho1, hw1⟩ := b.wr k o' (Nat.lt_of_lt_of_le hk a.len) ho hw
    exact a.wr k o1 hk ho1 hw1
  · rcases b.block bl (Nat.lt_of_lt_of_le hb a.size) with ⟨k, o, l, hk, hw, hι, hbl⟩ | he
    · by_cases hk0 : k < h.length
      · have hι0 : ι k = some l := by rw [← a.out k (by omega)]; exact hι
        obtain ⟨o0, ho0, hw0⟩ := a.wr k o hk0 hk hw
        exact .inl ⟨k, o0, l, ho0, hw0, hι0, hbl⟩
      · have hk1 : k < h1.length := (List.getElem?_eq_some_iff.1 hk).1
        rcases a.new k l (by omega) hk1 hι with hh | ⟨j, o', m, hj, hw', hm, hb'⟩
        · omega
        · exact .inl ⟨j, o', m, hj, hw', hm, hb'.trans hbl⟩
    · rcases a.block bl hb with hl | he'
      · exact .inl hl
      · exact .inr (he.trans he')

/-- All objects read only. -/
def frz (h : AHeap) : AHeap := h.map fun o => { o with w := false }
@[simp] theorem frz_length (h : AHeap) : (frz h).length = h.length := by simp [frz]
theorem frz_get (h : AHeap) (k : Nat) : (frz h)[k]? = (h[k]?).map fun o => { o with w := false } := by simp [frz]
@[simp] theorem frz_append (h t : AHeap) : frz (h ++ t) = frz h ++ frz t := by simp [frz]
@[simp] theorem frz_frz (h : AHeap) : frz (frz h) = frz h := by simp [frz]

theorem HR.frz {ι : Inj} {h : AHeap} {w : World} (hr : HR P ι h w) : HR P ι (frz h) w := by
  refine ⟨fun k o l hk hl => ?_, fun j k oj ok l m _ _ hk hw => ?_⟩
  · rw [frz_get] at hk
    obtain ⟨o0, h0, rfl⟩ := Option.map_eq_some_iff.1 hk
    have := hr.obj k o0 l h0 hl
    exact ⟨(fun hw => by cases hw), this.cells⟩
  · rw [frz_get] at hk
    obtain ⟨o0, h0, rfl⟩ := Option.map_eq_some_iff.1 hk
    cases hw

/-- An object that lies in an unchanged block lies there still. -/
theorem ObjOK.keep {ι ι' : Inj} {o : AObj} {l : Loc} {w w' : World} (h : ObjOK P ι o l w) (hs : Sub ι ι') (hb : w'.heap[l.block]? = w.heap[l.block]?) : ObjOK P ι' o l w' := by
  refine ⟨fun hw => ?_, fun i v hv => ?_⟩
  · obtain ⟨h1, h2, cs, h3, h4, h5⟩ := h.own hw
    exact ⟨h1, h2, cs, by rw [hb]; exact h3, h4, h5⟩
  · obtain ⟨v', h1, h2⟩ := h.cells i v hv
    exact ⟨v', by rw [← h1]; simp [World.cell?, hb], h2.mono hs⟩

/-- THE CALL OF A FUNCTION at abstract arguments, in an abstract heap: what it hands back, and the heap behind it. -/
def cal (P : Program) (f : FuncId) : Bool :=
  match P.funcs[f]? with
  | some fn => fn.body.isSome && fn.name != "runtime.NumGoroutine"
  | none => false
def AC (P : Program) (f : FuncId) (args : List Value) (h : AHeap) (v : Value) (h' : AHeap) : Prop :=
  cal P f = true ∧ h.length ≤ h'.length ∧ ∀ (base : Nat) (ι : Inj) (args' : List Value) (w : World), Inv base ι w → Free ι h.length h'.length → VRL P ι args args' → HR P ι h w →
    Calls P f args'.toArray w fun e w' => ∃ v' ι', e = .returned v' ∧ VR P ι' v v' ∧ Inv base ι' w' ∧ HR P ι' h' w' ∧ Upd ι ι' h h' w w'

/-- A call that writes to nothing that was there. -/
def ACp (P : Program) (f : FuncId) (args : List Value) (h : AHeap) (v : Value) (t : AHeap) : Prop := AC P f args (frz h) v (frz h ++ t)

theorem ACp.ac {f : FuncId} {args : List Value} {h : AHeap} {v : Value} {t : AHeap} (hc : ACp P f args h v t) : AC P f args h v (h ++ t) := by
  refine ⟨hc.1, by simp, ?_⟩
  intro base ι args' w hi hf ha hr
  refine (hc.2.2 base ι args' w hi (by simpa using hf) ha hr.frz).mono ?_
  rintro e w' ⟨v', ι', he, hv, hi', hr', hu⟩
  have hb : ∀ b, b < w.heap.size → w'.heap[b]? = w.heap[b]? := by
    intro b hb
    rcases hu.block b hb with ⟨k, o, l, hk, hw, _⟩ | he
    · rw [frz_get] at hk
      obtain ⟨o0, _, rfl⟩ := Option.map_eq_some_iff.1 hk
      cases hw
    · exact he
  have hs : Sub ι ι' := hu.sub (by simpa using hf)
  have hnew : ∀ k l, h.length ≤ k → k < h.length + t.length → ι' k = some l → w.heap.size ≤ l.block := by
    intro k l h1 h2 h3
    rcases hu.new k l (by simpa using h1) (by simpa using h2) h3 with hh | ⟨j, o, m, hj, hw, _⟩
    · exact hh
    · rw [frz_get] at hj
      obtain ⟨o0, _, rfl⟩ := Option.map_eq_some_iff.1 hj
      cases hw
  have hold : ∀ k l, k < h.length → ι' k = some l → ι k = some l := by
    intro k l hk hl; rw [← hu.out k (by simp; omega)]; exact hl
  have right : ∀ k o, h.length ≤ k → (h ++ t)[k]? = some o → (frz h ++ t)[k]? = some o := by
    intro k o hk ho
    rw [List.getElem?_append_right hk] at ho
    rw [List.getElem?_append_right (by simpa using hk)]; simpa using ho
  have lt : ∀ k o, (h ++ t)[k]? = some o → k < h.length + t.length := by
    intro k o ho; simpa using (List.getElem?_eq_some_iff.1 ho).1
  refine ⟨v', ι', he, hv, hi', ⟨fun k o l hk hl => ?_, fun j k oj ok l m hne hj hk hw hlv hl hm => ?_⟩, ⟨by simp, fun k hk => hu.out k (by simpa using hk), fun k l h1 h2 h3 => .inl (hnew k l h1 (by simpa using h2) h3), fun k o' hk ho hw => ?_, hu.size, hu.tape, hu.os, hu.output, fun b hb' => .inr (hb b hb')⟩⟩
  · by_cases hkl : k < h.length
    · rw [List.getElem?_append_left hkl] at hk
      have hιk := hold k l hkl hl
      exact (hr.obj k o l hk hιk).keep hs (hb _ (hi.lt k l hιk))
    · exact hr'.obj k o l (right k o (by omega) hk) hl
  · by_cases hjl : j < h.length <;> by_cases hkl : k < h.length
    · rw [List.getElem?_append_left hjl] at hj
      rw [List.getElem?_append_left hkl] at hk
      exact hr.apart j k oj ok l m hne hj hk hw hlv (hold j l hjl hl) (hold k m hkl hm)
    · have h1 := hi.lt j l (hold j l hjl hl)
      have h2 := hnew k m (by omega) (lt k ok hk) hm
      omega
    · have h1 := hi.lt k m (hold k m hkl hm)
      have h2 := hnew j l (by omega) (lt j oj hj) hl
      omega
    · exact hr'.apart j k oj ok l m hne (right j oj (by omega) hj) (right k ok (by omega) hk) hw hlv hl hm
  · rw [List.getElem?_append_left hk] at ho
    exact ⟨o', ho, hw⟩
end
end Go.AM

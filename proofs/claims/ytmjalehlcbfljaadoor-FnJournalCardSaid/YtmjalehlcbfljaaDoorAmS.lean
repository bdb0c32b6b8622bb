/- A part of the abstract machine's laws: steps, calls and loops over abstract heaps. -/
import Derived.Test.YtmjalehlcbfljaaDoorAmR
import Derived.Laws.Strings
set_option linter.unusedSectionVars false
set_option linter.defProp false
set_option linter.unusedVariables false
set_option linter.unusedSimpArgs false
set_option linter.unnecessarySimpa false
namespace Go.AM
open Go
variable [Ground]

/-! ### frames of which little is known -/
def flg : Nat → Nat → List (Nat × Value) → List Value
  | _, 0, _ => []
  | i, n + 1, [] => junk :: flg (i + 1) n []
  | i, n + 1, (k, v) :: r => if k = i then v :: flg (i + 1) n r else junk :: flg (i + 1) n ((k, v) :: r)
theorem flg_z (i : Nat) (l : List (Nat × Value)) : flg i 0 l = [] := by cases l <;> rfl
theorem flg_n (i n : Nat) : flg i (n + 1) [] = junk :: flg (i + 1) n [] := Eq.trans rfl rfl
theorem flg_c (i n k : Nat) (v : Value) (r : List (Nat × Value)) : flg i (n + 1) ((k, v) :: r) = if k = i then v :: flg (i + 1) n r else junk :: flg (i + 1) n ((k, v) :: r) := Eq.trans rfl rfl

theorem RL.wf {P : Program} {c : Code} {s : List Fr} {K : Kont} {α : Type} (μ : α → Nat) (F : α → List Value) (H : α → AHeap) (ok : α → Prop)
    (step : ∀ x, ok x → (∀ y, μ y < μ x → ok y → ∀ fr h, FLe (F y) fr → HLe (H y) h → RL P c s K fr h) → RL P c s K (F x) (H x)) :
    ∀ x, ok x → ∀ fr h, FLe (F x) fr → HLe (H x) h → RL P c s K fr h := by
  have key : ∀ n x, μ x = n → ok x → ∀ fr h, FLe (F x) fr → HLe (H x) h → RL P c s K fr h := by
    intro n
    induction n using Nat.strongRecOn with
    | _ n ih =>
      intro x hn hx fr h hf hh
      exact RL.forget hf hh (step x hx fun y hy hoy fr' h' hf' hh' => ih _ (hn ▸ hy) y rfl hoy fr' h' hf' hh')
  intro x; exact key _ x rfl

/-! ### rows of the abstract heap -/
def rd (h : AHeap) (id : Nat) : Option (List Value) := (h[id]?).map (·.cells)
theorem rd_frz (h : AHeap) (id : Nat) : rd (frz h) id = rd h id := by
  unfold rd; rw [frz_get]; cases h[id]? <;> rfl
theorem rd_lt {h : AHeap} {id : Nat} {cs : List Value} (hr : rd h id = some cs) : id < h.length := by
  unfold rd at hr
  obtain ⟨o, ho, _⟩ := Option.map_eq_some_iff.1 hr
  exact (List.getElem?_eq_some_iff.1 ho).1
theorem rd_app {h : AHeap} {id : Nat} (hl : id < h.length) (t : AHeap) : rd (h ++ t) id = rd h id := by
  unfold rd; rw [List.getElem?_append_left hl]
theorem rd_app_some {h : AHeap} {id : Nat} {cs : List Value} (hr : rd h id = some cs) (t : AHeap) : rd (h ++ t) id = some cs := by rw [rd_app (rd_lt hr), hr]
theorem rd_new (h : AHeap) (o : AObj) (t : AHeap) : rd (h ++ o :: t) h.length = some o.cells := by
  unfold rd; simp
theorem rd_new' (h : AHeap) (k : Nat) (t : AHeap) : rd (h ++ t) (h.length + k) = rd t k := by
  unfold rd; rw [List.getElem?_append_right (by omega)]; simp
theorem rd_c0 (o : AObj) (t : AHeap) : rd (o :: t) 0 = some o.cells := Eq.trans rfl rfl
theorem rd_cs (o : AObj) (t : AHeap) (k : Nat) : rd (o :: t) (k + 1) = rd t k := Eq.trans rfl rfl
theorem hget_rd (h : AHeap) (id i : Nat) : hget h id i = (rd h id).bind (·[i]?) := by
  unfold hget rd; cases h[id]? <;> rfl
theorem hread_rd (h : AHeap) (id off n : Nat) : hread h id off n = (rd h id).bind fun cs => if off + n ≤ cs.length then some ((cs.drop off).take n) else none := by
  unfold hread rd; cases h[id]? <;> rfl

/-! ### strings as lists of bytes -/
def str (l : List UInt8) : Value := .string ⟨l.toArray⟩
theorem str_of (s : ByteArray) : Value.string s = str s.data.toList := by
  obtain ⟨a⟩ := s; simp [str]
theorem str_lit (l : List UInt8) : Value.string ⟨l.toArray⟩ = str l := Eq.trans rfl rfl
theorem idOf_str (l : List UInt8) : idOf (str l) = [] := Eq.trans rfl rfl
theorem str_inj {a b : List UInt8} : str a = str b ↔ a = b := by simp [str]
theorem isCell_str (l : List UInt8) : isCell (str l) = true := Eq.trans rfl rfl
theorem isVal_str (l : List UInt8) : isVal (str l) = true := Eq.trans rfl rfl
theorem closed_str (l : List UInt8) : closed (str l) = true := Eq.trans rfl rfl
theorem cells_str (l : List UInt8) : (str l).cells = #[str l] := Eq.trans rfl rfl

section
variable {P : Program}
/-! ### int operations -/
theorem w_add (t : TypeId) (k : IntKind) (a b : Int) : aBin P .add t (.int k a) (.int k b) = some (.int k (k.wrap (a + b))) := by simp [aBin, aInt]
theorem w_sub (t : TypeId) (k : IntKind) (a b : Int) : aBin P .sub t (.int k a) (.int k b) = some (.int k (k.wrap (a - b))) := by simp [aBin, aInt]
theorem w_mul (t : TypeId) (k : IntKind) (a b : Int) : aBin P .mul t (.int k a) (.int k b) = some (.int k (k.wrap (a * b))) := by simp [aBin, aInt]
theorem w_quo (t : TypeId) (k : IntKind) (a b : Int) (hb : ¬ b = 0) : aBin P .quo t (.int k a) (.int k b) = some (.int k (k.wrap (a.tdiv b))) := by simp [aBin, aInt, hb]
theorem w_rem (t : TypeId) (k : IntKind) (a b : Int) (hb : ¬ b = 0) : aBin P .rem t (.int k a) (.int k b) = some (.int k (a.tmod b)) := by simp [aBin, aInt, hb]
theorem w_and (t : TypeId) (k : IntKind) (a b : Int) : aBin P .and t (.int k a) (.int k b) = some (.int k (k.wrap (BitVec.ofInt k.bits a &&& BitVec.ofInt k.bits b).toNat)) := by simp [aBin, aInt]
theorem w_or (t : TypeId) (k : IntKind) (a b : Int) : aBin P .or t (.int k a) (.int k b) = some (.int k (k.wrap (BitVec.ofInt k.bits a ||| BitVec.ofInt k.bits b).toNat)) := by simp [aBin, aInt]
theorem w_xor (t : TypeId) (k : IntKind) (a b : Int) : aBin P .xor t (.int k a) (.int k b) = some (.int k (k.wrap (BitVec.ofInt k.bits a ^^^ BitVec.ofInt k.bits b).toNat)) := by simp [aBin, aInt]
theorem w_eql (t : TypeId) (k : IntKind) (a b : Int) : aBin P .eql t (.int k a) (.int k b) = some (.bool (decide (a = b))) := by
  simp only [aBin, aInt, if_true]; congr 2
theorem w_neq (t : TypeId) (k : IntKind) (a b : Int) : aBin P .neq t (.int k a) (.int k b) = some (.bool (!decide (a = b))) := by
  simp only [aBin, aInt, if_true]; congr 2
theorem w_lss (t : TypeId) (k : IntKind) (a b : Int) : aBin P .lss t (.int k a) (.int k b) = some (.bool (decide (a < b))) := by simp [aBin, aInt]
theorem w_leq (t : TypeId) (k : IntKind) (a b : Int) : aBin P .leq t (.int k a) (.int k b) = some (.bool (decide (a ≤ b))) := by simp [aBin, aInt]
theorem w_gtr (t : TypeId) (k : IntKind) (a b : Int) : aBin P .gtr t (.int k a) (.int k b) = some (.bool (decide (b < a))) := by simp [aBin, aInt]
theorem w_geq (t : TypeId) (k : IntKind) (a b : Int) : aBin P .geq t (.int k a) (.int k b) = some (.bool (decide (b ≤ a))) := by simp [aBin, aInt]
theorem w_shl (t : TypeId) (k k' : IntKind) (a b : Int) (hb : 0 ≤ b) : aBin P .shl t (.int k a) (.int k' b) = some (.int k (k.wrap (a * 2 ^ (min b.toNat k.bits)))) := by simp [aBin, aShift, Int.not_lt.2 hb]
theorem w_shr (t : TypeId) (k k' : IntKind) (a b : Int) (hb : 0 ≤ b) : aBin P .shr t (.int k a) (.int k' b) = some (.int k (a.fdiv (2 ^ (min b.toNat k.bits)))) := by simp [aBin, aShift, Int.not_lt.2 hb]
theorem w_neg (k : IntKind) (a : Int) : aUn .neg (.int k a) = some (.int k (k.wrap (0 - a))) := Eq.trans rfl rfl
theorem w_not (b : Bool) : aUn .not (.bool b) = some (.bool !b) := Eq.trans rfl rfl
theorem wrap_i64 (n : Int) (h : -9223372036854775808 ≤ n ∧ n < 9223372036854775808) : IntKind.i64.wrap n = n := by
  simp [IntKind.wrap, IntKind.signed, IntKind.bits]; omega
theorem wrap_u64 (n : Int) (h : 0 ≤ n ∧ n < 18446744073709551616) : IntKind.u64.wrap n = n := by
  simp [IntKind.wrap, IntKind.signed, IntKind.bits]; omega
theorem wrap_u32 (n : Int) (h : 0 ≤ n ∧ n < 4294967296) : IntKind.u32.wrap n = n := by
  simp [IntKind.wrap, IntKind.signed, IntKind.bits]; omega
theorem wrap_u8 (n : Int) (h : 0 ≤ n ∧ n < 256) : IntKind.u8.wrap n = n := by
  simp [IntKind.wrap, IntKind.signed, IntKind.bits]; omega
theorem wrap_u8' (n : Int) : IntKind.u8.wrap n = n % 256 := by simp [IntKind.wrap, IntKind.signed, IntKind.bits]
theorem wrap_u64' (n : Int) : IntKind.u64.wrap n = n % 18446744073709551616 := by simp [IntKind.wrap, IntKind.signed, IntKind.bits]
theorem emod_u64 (a : Int) (h : 0 ≤ a ∧ a < 18446744073709551616) : a % 18446744073709551616 = a := Int.emod_eq_of_lt h.1 h.2
theorem tmod_pos (a b : Int) (h : 0 ≤ a) : a.tmod b = a % b := Int.tmod_eq_emod_of_nonneg h
theorem tdiv_pos (a b : Int) (h : 0 ≤ a) : a.tdiv b = a / b := Int.tdiv_eq_ediv_of_nonneg h
theorem isVal_agg (l : List Value) : isVal (.agg l.toArray) = l.all isCell := by simp [isVal]
theorem cells_agg (l : List Value) : (Value.agg l.toArray).cells = l.toArray := by simp [Value.cells]
theorem closed_int (k : IntKind) (n : Int) : closed (.int k n) = true := Eq.trans rfl rfl
theorem closed_bool (b : Bool) : closed (.bool b) = true := Eq.trans rfl rfl
theorem closed_ptr  : closed (.pointer none) = true := Eq.trans rfl rfl
theorem closed_slice  : closed (.slice none 0 0) = true := Eq.trans rfl rfl
theorem closed_func  : closed (.nilFunc) = true := Eq.trans rfl rfl
theorem closed_nil  : closed (.nilIface) = true := Eq.trans rfl rfl
theorem flat_int (k : IntKind) (n : Int) : flat (.int k n) = true := Eq.trans rfl rfl
theorem flat_bool (b : Bool) : flat (.bool b) = true := Eq.trans rfl rfl
theorem flat_ptr  : flat (.pointer none) = true := Eq.trans rfl rfl
theorem flat_slice  : flat (.slice none 0 0) = true := Eq.trans rfl rfl
theorem flat_func  : flat (.nilFunc) = true := Eq.trans rfl rfl
theorem flat_nil  : flat (.nilIface) = true := Eq.trans rfl rfl
theorem flat_str (l : List UInt8) : flat (str l) = true := Eq.trans rfl rfl
theorem closed_agg (l : List Value) : closed (.agg l.toArray) = l.all flat := by simp [closed]
theorem bits_i64 : IntKind.i64.bits = 64 := by simp [IntKind.bits]
theorem bits_u64 : IntKind.u64.bits = 64 := by simp [IntKind.bits]
theorem ofInt_toNat (a : Nat) (h : a < 18446744073709551616) : (BitVec.ofInt 64 (a : Int)).toNat = a := by
  rw [BitVec.toNat_ofInt]; simp; omega
theorem w_andN (a b : Nat) (ha : a < 9223372036854775808) (hb : b < 9223372036854775808) : IntKind.i64.wrap ((BitVec.ofInt IntKind.i64.bits (a : Int) &&& BitVec.ofInt IntKind.i64.bits (b : Int)).toNat : Nat) = ((a &&& b : Nat) : Int) := by
  show IntKind.i64.wrap ((BitVec.ofInt 64 (a : Int) &&& BitVec.ofInt 64 (b : Int)).toNat : Nat) = _
  rw [BitVec.toNat_and, ofInt_toNat a (by omega), ofInt_toNat b (by omega), wrap_i64]
  have := Nat.and_le_left (n := a) (m := b)
  omega
theorem w_orN (a b : Nat) (ha : a < 9223372036854775808) (hb : b < 9223372036854775808) : IntKind.i64.wrap ((BitVec.ofInt IntKind.i64.bits (a : Int) ||| BitVec.ofInt IntKind.i64.bits (b : Int)).toNat : Nat) = ((a ||| b : Nat) : Int) := by
  show IntKind.i64.wrap ((BitVec.ofInt 64 (a : Int) ||| BitVec.ofInt 64 (b : Int)).toNat : Nat) = _
  rw [BitVec.toNat_or, ofInt_toNat a (by omega), ofInt_toNat b (by omega), wrap_i64]
  have := Nat.or_lt_two_pow (n := 63) (x := a) (y := b) (by simpa using ha) (by simpa using hb)
  omega
theorem w_xorN (a b : Nat) (ha : a < 9223372036854775808) (hb : b < 9223372036854775808) : IntKind.i64.wrap ((BitVec.ofInt IntKind.i64.bits (a : Int) ^^^ BitVec.ofInt IntKind.i64.bits (b : Int)).toNat : Nat) = ((a ^^^ b : Nat) : Int) := by
  show IntKind.i64.wrap ((BitVec.ofInt 64 (a : Int) ^^^ BitVec.ofInt 64 (b : Int)).toNat : Nat) = _
  rw [BitVec.toNat_xor, ofInt_toNat a (by omega), ofInt_toNat b (by omega), wrap_i64]
  have := Nat.xor_lt_two_pow (n := 63) (x := a) (y := b) (by simpa using ha) (by simpa using hb)
  omega
theorem shl1 (w : Nat) (h : w ≤ 62) : IntKind.i64.wrap (1 * 2 ^ (min w 64)) = ((2 ^ w : Nat) : Int) := by
  have h1 : min w 64 = w := by omega
  have h2 : 2 ^ w ≤ 2 ^ 62 := Nat.pow_le_pow_right (by omega) h
  have h3 : (2 : Int) ^ w = ((2 ^ w : Nat) : Int) := by simp
  have h4 : (0 : Int) ≤ ((2 ^ w : Nat) : Int) := Int.natCast_nonneg _
  have h5 : ((2 ^ w : Nat) : Int) ≤ ((2 ^ 62 : Nat) : Int) := Int.ofNat_le.2 h2
  rw [h1, Int.one_mul, h3]
  generalize ((2 ^ w : Nat) : Int) = x at *
  exact wrap_i64 x (by omega)
theorem isVal_int (k : IntKind) (n : Int) : isVal (.int k n) = true := Eq.trans rfl rfl
theorem isVal_bool (b : Bool) : isVal (.bool b) = true := Eq.trans rfl rfl
theorem isVal_ptr (a : Option Addr) : isVal (.pointer a) = true := Eq.trans rfl rfl
theorem isVal_slice (a : Option Addr) (n c : Nat) : isVal (.slice a n c) = true := Eq.trans rfl rfl
theorem isVal_func (f : Fn) (a b : Array Value) : isVal (.func f a b) = true := Eq.trans rfl rfl
theorem isVal_nil : isVal .nilIface = true := Eq.trans rfl rfl
theorem isCell_int (k : IntKind) (n : Int) : isCell (.int k n) = true := Eq.trans rfl rfl
theorem isCell_bool (b : Bool) : isCell (.bool b) = true := Eq.trans rfl rfl
theorem isCell_ptr (a : Option Addr) : isCell (.pointer a) = true := Eq.trans rfl rfl
theorem isCell_slice (a : Option Addr) (n c : Nat) : isCell (.slice a n c) = true := Eq.trans rfl rfl
theorem isCell_func (f : Fn) (a b : Array Value) : isCell (.func f a b) = true := Eq.trans rfl rfl
theorem isCell_nil : isCell .nilIface = true := Eq.trans rfl rfl
theorem cells_int (k : IntKind) (n : Int) : (Value.int k n).cells = #[.int k n] := Eq.trans rfl rfl
theorem cells_bool (b : Bool) : (Value.bool b).cells = #[.bool b] := Eq.trans rfl rfl
theorem cells_ptr (a : Option Addr) : (Value.pointer a).cells = #[.pointer a] := Eq.trans rfl rfl
theorem cells_slice (a : Option Addr) (n c : Nat) : (Value.slice a n c).cells = #[.slice a n c] := Eq.trans rfl rfl
theorem cells_func (f : Fn) (a b : Array Value) : (Value.func f a b).cells = #[.func f a b] := Eq.trans rfl rfl
/-! ### strings -/
theorem ba_toList (l : List UInt8) : (⟨l.toArray⟩ : ByteArray).toList = l := by simp [ByteArray.toList_eq]
theorem s_add (t : TypeId) (a b : List UInt8) (h : a.length + b.length ≤ 4611686018427387904) : aBin P .add t (str a) (str b) = some (str (a ++ b)) := by
  have h' : (⟨a.toArray⟩ : ByteArray).size + (⟨b.toArray⟩ : ByteArray).size ≤ 4611686018427387904 := by simpa [ByteArray.size] using h
  simp only [str, aBin, aStr, if_pos h']
  congr 2
theorem s_eql (t : TypeId) (a b : List UInt8) : aBin P .eql t (str a) (str b) = some (.bool (decide (a = b))) := by
  simp only [str, aBin, aStr, ba_toList]; congr 2; by_cases h : a = b <;> simp [h]
theorem s_neq (t : TypeId) (a b : List UInt8) : aBin P .neq t (str a) (str b) = some (.bool (!decide (a = b))) := by
  simp only [str, aBin, aStr, ba_toList]; congr 3; by_cases h : a = b <;> simp [h]
theorem s_lss (t : TypeId) (a b : List UInt8) : aBin P .lss t (str a) (str b) = some (.bool (Op.bytesLess a b)) := by
  simp only [str, aBin, aStr, ba_toList]
theorem s_geq (t : TypeId) (a b : List UInt8) : aBin P .geq t (str a) (str b) = some (.bool (!Op.bytesLess a b)) := by
  simp only [str, aBin, aStr, ba_toList]
theorem s_len (t : TypeId) (l : List UInt8) : aLen P t (str l) = if isStrT P t = true then some (.int .i64 l.length) else none := by
  simp [aLen, str, ByteArray.size]
theorem s_index (t : TypeId) (l : List UInt8) (k : IntKind) (j : Int) (hj : 0 ≤ j ∧ j < (l.length : Int)) : aIndex P t (str l) (.int k j) = if isStrT P t = true then some (.int .u8 (l.getD j.toNat 0).toNat) else none := by
  have h1 : j.toNat < l.length := by omega
  by_cases ht : isStrT P t = true
  · simp only [aIndex, str, ht, hj.1, and_self, if_true]
    have : (⟨l.toArray⟩ : ByteArray)[j.toNat]? = some (l.getD j.toNat 0) := by
      have h2 : j.toNat < (⟨l.toArray⟩ : ByteArray).size := by simpa [ByteArray.size] using h1
      rw [getElem?_pos (⟨l.toArray⟩ : ByteArray) j.toNat h2, List.getD_eq_getElem?_getD, List.getElem?_eq_getElem h1]
      rfl
    rw [this]; rfl
  · simp [aIndex, str, ht]
theorem str_extract (l : List UInt8) (a b : Nat) (hb : b ≤ l.length) : Value.string ((⟨l.toArray⟩ : ByteArray).extract a b) = str ((l.drop a).take (b - a)) := by
  unfold str
  congr 1
  apply ByteArray.ext
  simp [ByteArray.data_extract]
theorem s_slice_l (t : TypeId) (l : List UInt8) (k : IntKind) (a : Int) (ha : 0 ≤ a ∧ a ≤ (l.length : Int)) : aSlice P t (str l) (some (.int k a)) none none = if isStrT P t = true then some (str (l.drop a.toNat)) else none := by
  by_cases ht : isStrT P t = true
  · simp only [aSlice, str, ht, Option.isNone_none, and_self, if_true, aBnd, Option.bind_some]
    have h1 : (0 ≤ a ∧ a ≤ (((⟨l.toArray⟩ : ByteArray).size : Nat) : Int)) := by simpa [ByteArray.size] using ha
    rw [if_pos h1, Option.map_some, str_extract]
    · simp [str, ByteArray.size]
      rw [List.take_of_length_le]; simp
    · simp [ByteArray.size]
  · simp [aSlice, str, ht]
theorem s_slice_h (t : TypeId) (l : List UInt8) (k : IntKind) (b : Int) (hb : 0 ≤ b ∧ b ≤ (l.length : Int)) : aSlice P t (str l) none (some (.int k b)) none = if isStrT P t = true then some (str (l.take b.toNat)) else none := by
  by_cases ht : isStrT P t = true
  · simp only [aSlice, str, ht, Option.isNone_none, and_self, if_true, aBnd]
    have h1 : (0 ≤ b ∧ b ≤ (((⟨l.toArray⟩ : ByteArray).size : Nat) : Int)) := by simpa [ByteArray.size] using hb
    rw [if_pos h1, Option.bind_some, Option.map_some, str_extract]
    · simp [str]
    · omega
  · simp [aSlice, str, ht]
theorem s_slice_lh (t : TypeId) (l : List UInt8) (k k' : IntKind) (a b : Int) (hb : 0 ≤ b ∧ b ≤ (l.length : Int)) (ha : 0 ≤ a ∧ a ≤ b) : aSlice P t (str l) (some (.int k a)) (some (.int k' b)) none = if isStrT P t = true then some (str ((l.drop a.toNat).take (b.toNat - a.toNat))) else none := by
  by_cases ht : isStrT P t = true
  · simp only [aSlice, str, ht, Option.isNone_none, and_self, if_true, aBnd]
    have h1 : (0 ≤ b ∧ b ≤ (((⟨l.toArray⟩ : ByteArray).size : Nat) : Int)) := by simpa [ByteArray.size] using hb
    have h2 : 0 ≤ a ∧ a ≤ (b.toNat : Int) := by omega
    rw [if_pos h1, Option.bind_some, if_pos h2, Option.map_some, str_extract]
    · rfl
    · omega
  · simp [aSlice, str, ht]
/-! ### slices -/
theorem l_len (t : TypeId) (a : Option Addr) (n c : Nat) : aLen P t (.slice a n c) = (selem P t).bind fun _ => some (.int .i64 n) := by
  simp only [aLen]; cases selem P t <;> simp
theorem l_idx (t : TypeId) (id off n c : Nat) (k : IntKind) (j : Int) (hj : 0 ≤ j ∧ j < (n : Int)) :
    aIndexAddr P t (.slice (some ⟨id, off, none⟩) n c) (.int k j) = (selem P t).bind fun e => (tinfo P e).bind fun ti => some (.pointer (some ⟨id, off + j.toNat * ti.size, none⟩)) := by simp [aIndexAddr, hj]
theorem l_load (t : TypeId) (id off : Nat) (h : AHeap) : aLoad P t (.pointer (some ⟨id, off, none⟩)) h = (tinfo P t).bind fun ti => if ti.agg = true then ((rd h id).bind fun cs => if off + ti.size ≤ cs.length then some (.agg ((cs.drop off).take ti.size).toArray) else none) else (rd h id).bind (·[off]?) := by
  simp only [aLoad, hget_rd, hread_rd]
  congr 1
  funext ti
  split
  · cases rd h id with
    | none => rfl
    | some cs => simp only [Option.bind_some]; split <;> rfl
  · rfl
theorem l_field (t : TypeId) (f id off : Nat) : aField P t (.pointer (some ⟨id, off, none⟩)) f = (fieldOff P t f).bind fun d => some (.pointer (some ⟨id, off + d, none⟩)) := by simp only [aField]; cases fieldOff P t f <;> rfl
theorem l_alloc (t : TypeId) (h : AHeap) : aAlloc P t h = (tinfo P t).bind fun ti => if ti.zero.all flat = true then some (.pointer (some ⟨h.length, 0, none⟩), h ++ [⟨ti.zero, t, true⟩]) else none := Eq.trans rfl rfl
theorem l_box (t : TypeId) (v : Value) (h : AHeap) : aBox t v h = if isVal v = true then some (.pointer (some ⟨h.length, 0, none⟩), h ++ [⟨v.cells.toList, t, true⟩]) else none := Eq.trans rfl rfl
theorem l_nil (a : Addr) : aNil (.pointer (some a)) = some (.pointer (some a)) := Eq.trans rfl rfl
theorem l_store (t : TypeId) (v : Value) (id off : Nat) (h : AHeap) :
    aStore P t (.pointer (some ⟨id, off, none⟩)) v h = (tinfo P t).bind fun ti => if isVal v = true ∧ v.cells.size = ti.size then hset h id off v.cells.toList else none := Eq.trans rfl rfl
theorem hset_new (h : AHeap) (t : AHeap) (k off : Nat) (vs : List Value) : hset (h ++ t) (h.length + k) off vs = (hset t k off vs).map (h ++ ·) := by
  unfold hset
  rw [List.getElem?_append_right (by omega)]
  simp only [Nat.add_sub_cancel_left]
  cases t[k]? with
  | none => rfl
  | some o =>
    simp only [Option.bind_some]
    split
    · rw [List.set_append_right _ _ (by omega)]; simp
    · rfl
theorem hset_new0 (h : AHeap) (t : AHeap) (off : Nat) (vs : List Value) : hset (h ++ t) h.length off vs = (hset t 0 off vs).map (h ++ ·) := hset_new h t 0 off vs
theorem hset_c0 (o : AObj) (t : AHeap) (off : Nat) (vs : List Value) : hset (o :: t) 0 off vs = if o.w = true ∧ off + vs.length ≤ o.cells.length then some ({ o with cells := o.cells.take off ++ vs ++ o.cells.drop (off + vs.length) } :: t) else none := Eq.trans rfl rfl
theorem hset_cs (o : AObj) (t : AHeap) (k off : Nat) (vs : List Value) : hset (o :: t) (k + 1) off vs = (hset t k off vs).map (o :: ·) := by
  unfold hset
  simp only [List.getElem?_cons_succ]
  cases t[k]? with
  | none => rfl
  | some o' => simp only [Option.bind_some]; split <;> rfl
/-! ### conversions -/
def hasT (P : Program) (t : TypeId) : Bool := (P.underlying t).isSome
def intT (P : Program) (t : TypeId) : Option IntKind := match P.underlying t with | some (.int k) => some k | _ => none
theorem c_int (s d : TypeId) (k0 : IntKind) (n : Int) (h : AHeap) : aConvert P s d (.int k0 n) h = if hasT P s = true then (intT P d).bind fun k => some (.int k (k.wrap n)) else none := by
  unfold intT hasT
  simp only [aConvert, aConv]
  cases h1 : P.underlying s with
  | none => simp
  | some ds =>
    cases h2 : P.underlying d with
    | none => simp
    | some dd => cases dd <;> simp
end
end Go.AM

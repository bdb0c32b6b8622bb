/- A part of the abstract machine's laws: steps, calls and loops over abstract heaps. -/
import Derived.Test.YtmjalehlcbfljaaDoorAmB
import Derived.Laws.MakeOwn
import Derived.Laws.Build
import Derived.Laws.Slices
import Derived.Laws.Small
import Derived.Lib.SliceRun
import Derived.WideLaws
set_option linter.unusedSectionVars false
set_option linter.defProp false
set_option linter.unusedVariables false
set_option linter.unusedSimpArgs false
set_option linter.unnecessarySimpa false
namespace Go.AM
open Go
variable [Ground]

structure TI where
  agg : Bool
  size : Nat
  bytes : Nat
  zero : List Value

def isAggD : TypeDesc → Bool
  | .struct _ | .array _ _ => true
  | _ => false
def tinfo (P : Program) (t : TypeId) : Option TI :=
  match P.info? t, P.underlying t with
  | some i, some d => i.zero.map fun z => ⟨isAggD d, i.size, i.bytes, z.cells.toList⟩
  | _, _ => none
def selem (P : Program) (t : TypeId) : Option TypeId :=
  match P.underlying t with
  | some (.slice e) => some e
  | _ => none
def fieldOff (P : Program) (s : TypeId) (f : Nat) : Option Nat :=
  match P.underlying s with
  | some (.struct fs) => (fs[f]?).bind fun fd => (P.info? fd.type).bind fun i => if i.size = 0 then none else some fd.offset
  | _ => none
def isStrT (P : Program) (t : TypeId) : Bool :=
  match P.underlying t with
  | some .string => true
  | _ => false

theorem tinfo_some {P : Program} {t : TypeId} {ti : TI} (h : tinfo P t = some ti) :
    ∃ i d z, P.info? t = some i ∧ P.underlying t = some d ∧ i.zero = some z ∧ ti = ⟨isAggD d, i.size, i.bytes, z.cells.toList⟩ := by
  unfold tinfo at h
  split at h
  · rename_i i d hi hd
    obtain ⟨z, hz, rfl⟩ := Option.map_eq_some_iff.1 h
    exact ⟨i, d, z, hi, hd, hz, rfl⟩
  · cases h
theorem selem_some {P : Program} {t e : TypeId} (h : selem P t = some e) : P.underlying t = some (.slice e) := by
  unfold selem at h
  split at h <;> simp_all
theorem isStrT_true {P : Program} {t : TypeId} (h : isStrT P t = true) : P.underlying t = some .string := by
  unfold isStrT at h
  split at h <;> simp_all

/-! ### operations on plain values -/
def aInt (op : BinOp) (k : IntKind) (a b : Int) : Option Value :=
  match op with
  | .add => some (.int k (k.wrap (a + b)))
  | .sub => some (.int k (k.wrap (a - b)))
  | .mul => some (.int k (k.wrap (a * b)))
  | .quo => if b = 0 then none else some (.int k (k.wrap (a.tdiv b)))
  | .rem => if b = 0 then none else some (.int k (a.tmod b))
  | .and => some (.int k (k.wrap (BitVec.ofInt k.bits a &&& BitVec.ofInt k.bits b).toNat))
  | .or => some (.int k (k.wrap (BitVec.ofInt k.bits a ||| BitVec.ofInt k.bits b).toNat))
  | .xor => some (.int k (k.wrap (BitVec.ofInt k.bits a ^^^ BitVec.ofInt k.bits b).toNat))
  | .eql => some (.bool (a == b))
  | .neq => some (.bool (a != b))
  | .lss => some (.bool (a < b))
  | .leq => some (.bool (a ≤ b))
  | .gtr => some (.bool (a > b))
  | .geq => some (.bool (a ≥ b))
  | _ => none
def aShift (op : BinOp) (k : IntKind) (a b : Int) : Option Value :=
  if b < 0 then none else
  match op with
  | .shl => some (.int k (k.wrap (a * 2 ^ (min b.toNat k.bits))))
  | .shr => some (.int k (a.fdiv (2 ^ (min b.toNat k.bits))))
  | _ => none
def aStr (op : BinOp) (a b : ByteArray) : Option Value :=
  match op with
  | .add => if a.size + b.size ≤ 4611686018427387904 then some (.string (a ++ b)) else none
  | .eql => some (.bool (a.toList == b.toList))
  | .neq => some (.bool !(a.toList == b.toList))
  | .lss => some (.bool (Op.bytesLess a.toList b.toList))
  | .leq => some (.bool (Op.bytesLess a.toList b.toList || a.toList == b.toList))
  | .gtr => some (.bool !(Op.bytesLess a.toList b.toList || a.toList == b.toList))
  | .geq => some (.bool !(Op.bytesLess a.toList b.toList))
  | _ => none
def isBoolT (P : Program) (t : TypeId) : Bool := match P.underlying t with | some .bool => true | _ => false
def isIfaceT (P : Program) (t : TypeId) : Bool := match P.underlying t with | some (.interface _) => true | _ => false

def aBin (P : Program) (op : BinOp) (t : TypeId) (x y : Value) : Option Value :=
  match x, y with
  | .int k a, .int k' b => match op with
    | .shl | .shr => aShift op k a b
    | _ => if k = k' then aInt op k a b else none
  | .string a, .string b => aStr op a b
  | .bool a, .bool b => if isBoolT P t then (match op with | .eql => some (.bool (a == b)) | .neq => some (.bool !(a == b)) | _ => none) else none
  | .slice a _ _, .slice none 0 0 => if (selem P t).isSome then (match op with | .eql => some (.bool a.isNone) | .neq => some (.bool !a.isNone) | _ => none) else none
  | .iface _ _, .nilIface => if isIfaceT P t then (match op with | .eql => some (.bool false) | .neq => some (.bool true) | _ => none) else none
  | _, _ => none
def aUn (op : UnOp) (x : Value) : Option Value :=
  match op, x with
  | .neg, .int k n => some (.int k (k.wrap (0 - n)))
  | .not, .bool b => some (.bool !b)
  | _, _ => none
def aConv (P : Program) (s d : TypeId) (x : Value) : Option Value :=
  match x with
  | .int _ n => match P.underlying s, P.underlying d with
    | some _, some (.int k) => some (.int k (k.wrap n))
    | _, _ => none
  | _ => none
/-- The bytes of a row of byte variables. -/
def bytesOf : List Value → Option (List UInt8)
  | [] => some []
  | .int .u8 n :: r => (bytesOf r).map fun l => n.toNat.toUInt8 :: l
  | _ => none

section
variable {P : Program} {ι : Inj}

theorem run_aInt {op : BinOp} {k : IntKind} {a b : Int} {v : Value} (t : TypeId) (h : aInt op k a b = some v) (hs : op ≠ .shl ∧ op ≠ .shr) (w : World) : (binOp op t (.int k a) (.int k b)).run P w = .ok v w := by
  cases op <;> simp_all [aInt, binOp, Op.intArith, Op.intDiv, Op.intBits, Op.intCmp]
theorem run_aShift {op : BinOp} {k k' : IntKind} {a b : Int} {v : Value} (t : TypeId) (h : aShift op k a b = some v) (w : World) : (binOp op t (.int k a) (.int k' b)).run P w = .ok v w := by
  unfold aShift at h
  split at h
  · cases h
  · rename_i hb
    have hb' : ¬ b < 0 := by omega
    cases op <;> simp at h <;> subst h <;> simp only [binOp, Op.shift, if_neg hb'] <;> rfl
theorem run_aStr {op : BinOp} {a b : ByteArray} {v : Value} (t : TypeId) (h : aStr op a b = some v) (w : World) : (binOp op t (.string a) (.string b)).run P w = .ok v w := by
  cases op with
  | add =>
    simp only [aStr] at h
    split at h
    · rename_i hle
      cases h
      have : ¬ ((a.size + b.size : Nat) : Int) > IntKind.i64.max := by
        have e : IntKind.i64.max = 9223372036854775807 := rfl
        rw [e]; omega
      simp only [binOp, Op.stringOp]
      rw [if_neg this]; rfl
    · cases h
  | _ => first | (simp only [aStr, Option.some.injEq] at h; subst h; rfl) | (simp [aStr] at h)

theorem aInt_flat {op : BinOp} {k : IntKind} {a b : Int} {v : Value} (h : aInt op k a b = some v) : AM.flat v = true := by
  cases op <;> simp only [aInt] at h <;> first
    | (cases h; rfl)
    | (split at h <;> first | cases h; rfl | cases h)
    | cases h
theorem aShift_flat {op : BinOp} {k : IntKind} {a b : Int} {v : Value} (h : aShift op k a b = some v) : AM.flat v = true := by
  unfold aShift at h
  split at h
  · cases h
  · cases op <;> simp only at h <;> first | (cases h; rfl) | cases h
theorem aStr_flat {op : BinOp} {a b : ByteArray} {v : Value} (h : aStr op a b = some v) : AM.flat v = true := by
  cases op <;> simp only [aStr] at h <;> first
    | (cases h; rfl)
    | (split at h <;> first | cases h; rfl | cases h)
    | cases h

theorem run_slice_nil {t e : TypeId} (hu : P.underlying t = some (.slice e)) (w : World) (a' : Option Addr) (n' c' : Nat) (op : BinOp) (v : Value)
    (hv : (match op with | .eql => some (Value.bool a'.isNone) | .neq => some (.bool !a'.isNone) | _ => none) = some v) :
    (binOp op t (.slice a' n' c') (.slice none 0 0)).run P w = .ok v w := by
  have he := Lib.run_equalIn_slice_nil (P := P) w 9999 t e a' n' c' 0 0 hu
  cases op <;> simp only [Option.some.injEq, reduceCtorEq] at hv <;> subst hv <;> simp only [binOp] <;> simp [Op.equal, Op.maxDepth, he]

theorem run_iface_nil {t : TypeId} (hb : isIfaceT P t = true) (w : World) (u : TypeId) (z : Value) (op : BinOp) (v : Value)
    (hv : (match op with | .eql => some (Value.bool false) | .neq => some (.bool true) | _ => none) = some v) :
    (binOp op t (.iface u z) .nilIface).run P w = .ok v w := by
  have hu : P.underlying t = some (.interface (P.methodsAt t)) := by
    unfold isIfaceT at hb
    split at hb
    · rename_i ms hms; simp [Program.methodsAt, hms]
    · cases hb
  have h1 := run_eql_held_nil (P := P) (w := w) t u z hu
  have h2 := run_neq_held_nil (P := P) (w := w) t u z hu
  cases op <;> simp only [Option.some.injEq, reduceCtorEq] at hv <;> subst hv <;> assumption

theorem run_aBin {op : BinOp} {t : TypeId} {x y v : Value} (h : aBin P op t x y = some v) {x' y' : Value} (hx : VR P ι x x') (hy : VR P ι y y') (ox oy : Operand) (w : World) :
    (do eqGuard op t ox oy x' y'; binOp op t x' y' : Sem Value).run P w = .ok v w ∧ AM.flat v = true := by
  unfold aBin at h
  split at h
  · rename_i k a k' b
    cases hx; cases hy
    have hg : (eqGuard op t ox oy (.int k a) (.int k' b)).run P w = .ok () w := by
      unfold eqGuard; split <;> rfl
    simp only [Sem.run_bind, hg, Result.andThen_ok]
    split at h
    · exact ⟨run_aShift t h w, aShift_flat h⟩
    · exact ⟨run_aShift t h w, aShift_flat h⟩
    · split at h
      · rename_i hk; subst hk; exact ⟨run_aInt t h ⟨by assumption, by assumption⟩ w, aInt_flat h⟩
      · cases h
  · rename_i a b
    cases hx; cases hy
    have hg : (eqGuard op t ox oy (.string a) (.string b)).run P w = .ok () w := by
      unfold eqGuard; split <;> rfl
    simp only [Sem.run_bind, hg, Result.andThen_ok]
    exact ⟨run_aStr t h w, aStr_flat h⟩
  · rename_i a b
    cases hx; cases hy
    have hg : (eqGuard op t ox oy (.bool a) (.bool b)).run P w = .ok () w := by
      unfold eqGuard; split <;> rfl
    simp only [Sem.run_bind, hg, Result.andThen_ok]
    split at h
    · rename_i hb
      have hu : P.underlying t = some .bool := by
        unfold isBoolT at hb; split at hb <;> simp_all
      cases op <;> simp only [Option.some.injEq, reduceCtorEq] at h <;> subst h
      · exact ⟨run_eql_bool (P := P) (w := w) t a b hu, rfl⟩
      · exact ⟨run_neq_bool (P := P) (w := w) t a b hu, rfl⟩
    · cases h
  · rename_i a n c
    cases hy
    split at h
    · rename_i hs
      obtain ⟨e, he⟩ := Option.isSome_iff_exists.1 hs
      have hu := selem_some he
      have hfl : AM.flat v = true := by cases op <;> simp only [Option.some.injEq, reduceCtorEq] at h <;> subst h <;> rfl
      refine ⟨?_, hfl⟩
      cases hx with
      | nilslice =>
        have hg : (eqGuard op t ox oy (.slice none 0 0) (.slice none 0 0)).run P w = .ok () w := by
          unfold eqGuard; split <;> rfl
        simp only [Sem.run_bind, hg, Result.andThen_ok]
        exact run_slice_nil hu w _ _ _ op v h
      | slice id off n' c0 b o c' l hl hb ho hn hm hc hss =>
        have hg : (eqGuard op t ox oy (.slice (some ⟨b, o, none⟩) n c') (.slice none 0 0)).run P w = .ok () w := by
          unfold eqGuard; split <;> rfl
        simp only [Sem.run_bind, hg, Result.andThen_ok]
        exact run_slice_nil hu w _ _ _ op v h
    · cases h
  · rename_i u z
    cases hy
    cases hx with
    | iface _ _ z' hz =>
    split at h
    · rename_i hb
      have hfl : AM.flat v = true := by cases op <;> simp only [Option.some.injEq, reduceCtorEq] at h <;> subst h <;> rfl
      refine ⟨?_, hfl⟩
      have hg : (eqGuard op t ox oy (.iface u z') .nilIface).run P w = .ok () w := by
        unfold eqGuard; split <;> rfl
      simp only [Sem.run_bind, hg, Result.andThen_ok]
      exact run_iface_nil hb w u z' op v h
    · cases h
  · cases h

theorem run_aUn {op : UnOp} {x v x' : Value} (h : aUn op x = some v) (hx : VR P ι x x') (w : World) : (Op.unary op x').run P w = .ok v w ∧ AM.flat v = true := by
  unfold aUn at h
  split at h
  · cases hx; cases h; exact ⟨rfl, rfl⟩
  · cases hx; cases h; exact ⟨rfl, rfl⟩
  · cases h
theorem run_aConv {s d : TypeId} {x v x' : Value} (h : aConv P s d x = some v) (hx : VR P ι x x') (w : World) : (convert s d x').run P w = .ok v w ∧ AM.flat v = true := by
  unfold aConv at h
  split at h
  · cases hx
    split at h
    · rename_i ds k hs hd
      cases h
      exact ⟨by simp [convert, run_underlying hs, run_underlying hd, Conv.intToInt], rfl⟩
    · cases h
  · cases h
end
end Go.AM

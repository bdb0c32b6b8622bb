/- A part of the abstract machine's laws: steps, calls and loops over abstract heaps. -/
import Derived.Test.YtmjalehlcbfljaaDoorAmH
import Derived.Laws.BytesArg
set_option linter.unusedSectionVars false
set_option linter.defProp false
set_option linter.unusedVariables false
set_option linter.unusedSimpArgs false
set_option linter.unnecessarySimpa false
namespace Go.AM
open Go
variable [Ground]

section
variable {P : Program} {ι : Inj} {base : Nat}

theorem bytesOf_nums : ∀ (cs cs' : List Value) (l : List UInt8), bytesOf cs = some l → VRL P ι cs cs' → ∃ ns : List Int, cs' = ns.map (Value.int .u8) ∧ l = ns.map fun n => UInt8.ofNat n.toNat := by
  intro cs
  induction cs with
  | nil =>
    intro cs' l h hv
    simp [bytesOf] at h
    have := hv.1
    obtain rfl : cs' = [] := List.eq_nil_of_length_eq_zero (by simpa using this.symm)
    exact ⟨[], rfl, by simpa using h⟩
  | cons c r ih =>
    intro cs' l h hv
    cases cs' with
    | nil => have := hv.1; simp at this
    | cons c' r' =>
      have h0 := hv.2 0 c c' rfl rfl
      have ht : VRL P ι r r' := ⟨by have := hv.1; simpa using this, fun i x y hx hy => hv.2 (i + 1) x y (by simpa using hx) (by simpa using hy)⟩
      obtain ⟨n, rfl⟩ : ∃ n, c = .int .u8 n := by
        cases c with
        | int k n => cases k <;> first | exact ⟨n, rfl⟩ | simp [bytesOf] at h
        | _ => simp [bytesOf] at h
      simp only [bytesOf] at h
      obtain ⟨l0, hl0, rfl⟩ := Option.map_eq_some_iff.1 h
      cases h0
      obtain ⟨ns, h1, h2⟩ := ih r' l0 hl0 ht
      exact ⟨n :: ns, by simp [h1], by simp [h2]⟩

theorem aBytesStr_run {s d : TypeId} {x v x' : Value} {h : AHeap} {w : World} (ha : aBytesStr P s d x h = some v) (hx : VR P ι x x')
    (hobj : ∀ k ∈ idOf x, ∀ o l, h[k]? = some o → ι k = some l → ObjOK P ι o l w) : (convert s d x').run P w = .ok v w ∧ AM.flat v = true := by
  unfold aBytesStr at ha
  split at ha
  · rename_i hd
    have hd' := isStrT_true hd
    obtain ⟨e, he, h1a⟩ := Option.bind_eq_some_iff.1 ha
    clear ha
    have hs := selem_some he
    split at h1a
    · rename_i hu8
      split at h1a
      · cases h1a; cases hx
        refine ⟨?_, rfl⟩
        have := run_convert_bytes_nil (P := P) w s e hs hu8 0 0 d hd'
        rw [this]; rfl
      · rename_i id off n c
        obtain ⟨cs, hcs, h2a⟩ := Option.bind_eq_some_iff.1 h1a
        obtain ⟨l, hl, rfl⟩ := Option.map_eq_some_iff.1 h2a
        obtain ⟨lo, o, c', hlo, rfl, ho, hn, hm, hc, hss⟩ := hx.slice_inv
        refine ⟨?_, rfl⟩
        rw [run_convert_bytes_string w s d e _ n c' hs hu8 hd']
        have main : ∀ (a : Addr) (cs' : List Value), (loadCells a n).run P w = .ok cs'.toArray w → VRL P ι cs cs' → (Conv.bytesToString (.slice (some a) n c')).run P w = .ok (.string ⟨l.toArray⟩) w := by
          intro a cs' hrun hv
          obtain ⟨ns, rfl, rfl⟩ := bytesOf_nums cs cs' l hl hv
          rw [run_bytesToString w a n c' ns hrun, foldl_push_bytes]
          simp [ByteArray.empty, ByteArray.emptyWithCapacity]
          rfl
        rcases ho with ho | ⟨h0, _⟩
        · obtain ⟨cs', k1, k2, _, _⟩ := hread_run hcs (l := lo) (fun ob hob => hobj id (by simp [idOf]) ob lo hob hlo)
          subst ho
          exact main _ cs' k1 k2
        · subst h0
          refine main _ [] (by simp [loadCells, loadCellsFrom]) ?_
          unfold hread at hcs
          obtain ⟨ob, _, h3a⟩ := Option.bind_eq_some_iff.1 hcs
          split at h3a
          · cases h3a; simpa using VRL.nil ι
          · cases h3a
      · cases h1a
    · cases h1a
  · cases ha
end

def aBuiltin (P : Program) (b : Builtin) (tys : List TypeId) (args : List Value) (h : AHeap) : Option (Value × AHeap) :=
  match b, tys, args with
  | .len, [t], [x] => (aLen P t x).map (·, h)
  | .append, [t, t'], [s, x] => aAppend P t t' s x h
  | .copy, [t, t'], [d, s] => if t = t' then aCopy P t d s h else none
  | .clear, [t], [x] => aClear P t x h
  | .min, _, [.int k a, .int k' b] => if k = k' then some (.int k (if b < a then b else a), h) else none
  | .max, _, [.int k a, .int k' b] => if k = k' then some (.int k (if b > a then b else a), h) else none
  | _, _, _ => none
def wBuiltin (b : Builtin) (args : List Value) : List Nat :=
  match b, args with
  | .append, [s, x] => wAppend s x
  | .copy, [d, s] => wCopy d s
  | .clear, [x] => wClear x
  | _, _ => []

def aop (P : Program) (op : Op) (ρ : Operand → Value) (h : AHeap) : Option (Value × AHeap) :=
  match op with
  | .move x | .assign x => some (ρ x, h)
  | .pick c a b => (aPick (ρ c) (ρ a) (ρ b)).map (·, h)
  | .alloc e => aAlloc P e h
  | .box e x => aBox e (ρ x) h
  | .build t parts => (aBuild P t (parts.toList.map fun x => (x.1, ρ x.2))).map (·, h)
  | .buildSlice t len parts => aBuildSlice P t len (parts.toList.map fun x => (x.1, ρ x.2)) h
  | .load t a => (aLoad P t (ρ a) h).map (·, h)
  | .store t a x => (aStore P t (ρ a) (ρ x) h).map fun h' => (undef, h')
  | .nilCheck x => match ρ x with
    | .pointer (some a) => some (.pointer (some a), h)
    | _ => none
  | .binOp op t x y _ => (aBin P op t (ρ x) (ρ y)).map (·, h)
  | .unOp op _ x => (aUn op (ρ x)).map (·, h)
  | .convert s d x => match ρ x with
    | .int k n => (aConv P s d (.int k n)).map (·, h)
    | v => (aBytesStr P s d v h).map (·, h)
  | .makeFunc fn first captured => some (.func fn (first.map ρ) (captured.map ρ), h)
  | .makeInterface t x => if P.concrete t = true then some (.iface t (ρ x), h) else none
  | .makeSlice t l c => aMake P t (ρ l) (ρ c) h
  | .slice t x lo hi mx => (aSlice P t (ρ x) (lo.map ρ) (hi.map ρ) (mx.map ρ)).map (·, h)
  | .fieldAddr s x f => (aField P s (ρ x) f).map (·, h)
  | .indexAddr t x i => (aIndexAddr P t (ρ x) (ρ i)).map (·, h)
  | .index t x i => (aIndex P t (ρ x) (ρ i)).map (·, h)
  | .extract x i => (aExtract (ρ x) i).map (·, h)
  | .call ⟨.builtin b, args, tys⟩ => aBuiltin P b tys.toList (args.toList.map ρ) h
  | _ => none
/-- What an operation looks into, what it writes to. -/
def tOp (op : Op) (ρ : Operand → Value) : List Nat :=
  match op with
  | .load _ a => idOf (ρ a)
  | .store _ a _ => idOf (ρ a)
  | .convert _ _ x => idOf (ρ x)
  | .call ⟨.builtin .append, args, _⟩ | .call ⟨.builtin .copy, args, _⟩ | .call ⟨.builtin .clear, args, _⟩ => args.toList.flatMap fun x => idOf (ρ x)
  | _ => []
def wOp (op : Op) (ρ : Operand → Value) : List Nat :=
  match op with
  | .store _ a _ => idOf (ρ a)
  | .call ⟨.builtin b, args, _⟩ => wBuiltin b (args.toList.map ρ)
  | _ => []

section
variable {P : Program} {ι : Inj} {base : Nat}

/-- What a step comes to. -/
def StepOK (P : Program) (base : Nat) (W : List Nat) (ι : Inj) (h h' : AHeap) (v : Value) (r : Result Next) (w : World) : Prop :=
  ∃ n v' w' ι', r = .ok n w' ∧ (n = .value v' ∨ (n = .skip ∧ v' = undef)) ∧ VR P ι' v v' ∧ Post P base W ι ι' h h' w w'

theorem VR.undef : VR P ι undef undef := .tuple _ _ rfl (by simp)

theorem StepOK.s0 {h : AHeap} {v v' : Value} {s : Sem Value} {w : World} (hr : s.run P w = .ok v' w) (hv : VR P ι v v') (hi : Inv base ι w) :
    StepOK P base [] ι h h v ((do pure (.value (← s)) : Sem Next).run P w) w :=
  ⟨_, v', w, ι, by simp [hr], .inl rfl, hv, .refl hi⟩
theorem StepOK.s1 {h h' : AHeap} {W : List Nat} {v v' : Value} {s : Sem Value} {w w' : World} {ι' : Inj} (hr : s.run P w = .ok v' w') (hv : VR P ι' v v') (hp : Post P base W ι ι' h h' w w') :
    StepOK P base W ι h h' v ((do pure (.value (← s)) : Sem Next).run P w) w :=
  ⟨_, v', w', ι', by simp [hr], .inl rfl, hv, hp⟩

theorem aop_ok (o : Oper) (ρ ρ' : Operand → Value) {v : Value} {h h' : AHeap} {w : World} (ha : aop P o.op ρ h = some (v, h')) (hρ : ∀ x ∈ o.op.operands.toList, VR P ι (ρ x) (ρ' x)) (hi : Inv base ι w)
    (hf : Free ι h.length h'.length) (hobj : ∀ k ∈ tOp o.op ρ, ∀ ob l, h[k]? = some ob → ι k = some l → ObjOK P ι ob l w) :
    StepOK P base (wOp o.op ρ) ι h h' v ((execOp ρ' o).run P w) w := by
  obtain ⟨dst, op, ty, pos, after, guard⟩ := o
  simp only at ha hρ hobj ⊢
  cases op with
  | move x => simp only [aop, Option.some.injEq, Prod.mk.injEq] at ha; obtain ⟨rfl, rfl⟩ := ha; exact ⟨_, _, w, ι, rfl, .inl rfl, hρ x (by simp [Op.operands]), .refl hi⟩
  | assign x => simp only [aop, Option.some.injEq, Prod.mk.injEq] at ha; obtain ⟨rfl, rfl⟩ := ha; exact ⟨_, _, w, ι, rfl, .inl rfl, hρ x (by simp [Op.operands]), .refl hi⟩
  | pick c a b =>
    simp only [aop] at ha
    obtain ⟨v0, hv, he⟩ := Option.map_eq_some_iff.1 ha; cases he
    unfold aPick at hv
    split at hv
    · rename_i t hc
      cases hv
      have h1 := hρ c (by simp [Op.operands])
      rw [hc] at h1
      generalize hcc : ρ' c = cv at h1
      cases h1
      refine ⟨_, (if t = true then ρ' a else ρ' b), w, ι, by simp [execOp, hcc, asBool], .inl rfl, ?_, .refl hi⟩
      cases t
      · exact hρ b (by simp [Op.operands])
      · exact hρ a (by simp [Op.operands])
    · cases hv
  | alloc e => obtain ⟨r', w', ι', h1, h2, h3⟩ := aAlloc_run ha hi hf; exact .s1 h1 h2 h3
  | box e x => obtain ⟨r', w', ι', h1, h2, h3⟩ := aBox_run ha (hρ x (by simp [Op.operands])) hi hf; exact .s1 h1 h2 h3
  | build t parts =>
    simp only [aop] at ha
    obtain ⟨v0, hv, he⟩ := Option.map_eq_some_iff.1 ha; cases he
    obtain ⟨v', h1, h2⟩ := aBuild_run (ι := ι) (w := w) (parts' := parts.toList.map fun x => (x.1, ρ' x.2)) hv (by simp) (fun j x y hx hy => by
      simp only [List.getElem?_map, Option.map_eq_some_iff] at hx hy
      obtain ⟨p, hp, rfl⟩ := hx
      obtain ⟨q, hq, rfl⟩ := hy
      rw [hp] at hq; cases hq
      exact ⟨rfl, hρ _ (by simp only [Op.operands]; exact List.mem_map_of_mem (List.mem_of_getElem? hp))⟩)
    refine .s0 (by rw [show (List.map (fun x : Nat × Operand => (x.1, ρ' x.2)) parts.toList).toArray = parts.map (fun x => (x.1, ρ' x.2)) from Array.ext' (by simp)] at h1; exact h1) h2 hi
  | buildSlice t len parts =>
    obtain ⟨v', w', ι', h1, h2, h3⟩ := aBuildSlice_run (ι := ι) (w := w) (parts' := parts.toList.map fun x => (x.1, ρ' x.2)) ha (by simp) (fun j x y hx hy => by
      simp only [List.getElem?_map, Option.map_eq_some_iff] at hx hy
      obtain ⟨p, hp, rfl⟩ := hx
      obtain ⟨q, hq, rfl⟩ := hy
      rw [hp] at hq; cases hq
      exact ⟨rfl, hρ _ (by simp only [Op.operands]; exact List.mem_map_of_mem (List.mem_of_getElem? hp))⟩) hi hf
    exact .s1 (by rw [show (List.map (fun x : Nat × Operand => (x.1, ρ' x.2)) parts.toList).toArray = parts.map (fun x => (x.1, ρ' x.2)) from Array.ext' (by simp)] at h1; exact h1) h2 h3
  | load t a =>
    simp only [aop] at ha
    obtain ⟨v0, hv, he⟩ := Option.map_eq_some_iff.1 ha; cases he
    obtain ⟨v', h1, h2⟩ := aLoad_run hv (hρ a (by simp [Op.operands])) (fun k hk => hobj k hk)
    exact .s0 h1 h2 hi
  | store t a x =>
    simp only [aop] at ha
    obtain ⟨h1', hv, he⟩ := Option.map_eq_some_iff.1 ha; cases he
    obtain ⟨w', h1, h2⟩ := aStore_run hv (hρ a (by simp [Op.operands])) (hρ x (by simp [Op.operands])) hi (fun k hk => hobj k hk)
    exact ⟨.skip, undef, w', ι, by simp [execOp, h1], .inr ⟨rfl, rfl⟩, .undef, h2⟩
  | nilCheck x =>
    simp only [aop] at ha
    split at ha
    · rename_i a hx
      cases ha
      have h1 := hρ x (by simp [Op.operands])
      rw [hx] at h1
      generalize hcc : ρ' x = cv at h1
      have h2 := h1
      cases h1 with
      | ptr id off b o l k1 k2 k3 => exact ⟨_, _, w, ι, by simp only [execOp, hcc]; rfl, .inl rfl, h2, .refl hi⟩
    · cases ha
  | binOp op t x y yt =>
    simp only [aop] at ha
    obtain ⟨v0, hv, he⟩ := Option.map_eq_some_iff.1 ha; cases he
    obtain ⟨h1, h2⟩ := run_aBin hv (hρ x (by simp [Op.operands])) (hρ y (by simp [Op.operands])) x y w
    exact .s0 h1 (VR.flat h2) hi
  | unOp op t x =>
    simp only [aop] at ha
    obtain ⟨v0, hv, he⟩ := Option.map_eq_some_iff.1 ha; cases he
    obtain ⟨h1, h2⟩ := run_aUn hv (hρ x (by simp [Op.operands])) w
    exact .s0 h1 (VR.flat h2) hi
  | convert s d x =>
    simp only [aop] at ha
    have hx := hρ x (by simp [Op.operands])
    split at ha
    · rename_i k n hxe
      obtain ⟨v0, hv, he⟩ := Option.map_eq_some_iff.1 ha; cases he
      rw [hxe] at hx
      obtain ⟨h1, h2⟩ := run_aConv hv hx w
      exact .s0 h1 (VR.flat h2) hi
    · obtain ⟨v0, hv, he⟩ := Option.map_eq_some_iff.1 ha; cases he
      obtain ⟨h1, h2⟩ := aBytesStr_run hv hx (fun k hk => hobj k hk)
      exact .s0 h1 (VR.flat h2) hi
  | makeFunc fn first captured =>
    simp only [aop, Option.some.injEq, Prod.mk.injEq] at ha; obtain ⟨rfl, rfl⟩ := ha
    refine .s0 (s := Instr.makeFunc fn (first.map ρ') (captured.map ρ')) rfl (.func _ _ _ _ _ (by simp) (fun i x y hx hy => ?_) (by simp) (fun i x y hx hy => ?_)) hi
    · simp only [Array.getElem?_map, Option.map_eq_some_iff] at hx hy
      obtain ⟨p, hp, rfl⟩ := hx
      obtain ⟨q, hq, rfl⟩ := hy
      rw [hp] at hq; cases hq
      exact hρ _ (by simp only [Op.operands, Array.toList_append, List.mem_append, Array.mem_toList_iff]; exact .inl (Array.mem_of_getElem? hp))
    · simp only [Array.getElem?_map, Option.map_eq_some_iff] at hx hy
      obtain ⟨p, hp, rfl⟩ := hx
      obtain ⟨q, hq, rfl⟩ := hy
      rw [hp] at hq; cases hq
      exact hρ _ (by simp only [Op.operands, Array.toList_append, List.mem_append, Array.mem_toList_iff]; exact .inr (Array.mem_of_getElem? hp))
  | makeInterface t x =>
    simp only [aop] at ha
    split at ha
    · rename_i hc
      cases ha
      exact .s0 (run_makeInterface (P := P) (w := w) t (ρ' x) hc) (.iface _ _ _ (hρ x (by simp [Op.operands]))) hi
    · cases ha
  | makeSlice t l c => obtain ⟨r', w', ι', h1, h2, h3⟩ := aMake_run ha (hρ l (by simp [Op.operands])) (hρ c (by simp [Op.operands])) hi hf; exact .s1 h1 h2 h3
  | slice t x lo hii mx =>
    simp only [aop] at ha
    obtain ⟨v0, hv, he⟩ := Option.map_eq_some_iff.1 ha; cases he
    have hop : ∀ (q : Option Operand), (∀ y, q = some y → y ∈ (Op.slice t x lo hii mx).operands.toList) → (∀ y, q.map ρ = some y → ∃ y', q.map ρ' = some y' ∧ VR P ι y y') ∧ (q.map ρ = none → q.map ρ' = none) := by
      intro q hq
      cases q with
      | none => exact ⟨(fun y h => by cases h), fun _ => rfl⟩
      | some q => exact ⟨(fun y h => by cases h; exact ⟨_, rfl, hρ q (hq q rfl)⟩), (fun h => by cases h)⟩
    have a1 := hop lo (fun y hy => by subst hy; simp [Op.operands])
    have a2 := hop hii (fun y hy => by subst hy; simp [Op.operands])
    have a3 := hop mx (fun y hy => by subst hy; simp [Op.operands])
    obtain ⟨v', h1, h2⟩ := aSlice_run (w := w) hv (hρ x (by simp [Op.operands])) a1.1 a1.2 a2.1 a2.2 a3.1 a3.2
    exact .s0 h1 h2 hi
  | fieldAddr s x f =>
    simp only [aop] at ha
    obtain ⟨v0, hv, he⟩ := Option.map_eq_some_iff.1 ha; cases he
    obtain ⟨v', h1, h2⟩ := aField_run (w := w) hv (hρ x (by simp [Op.operands]))
    exact .s0 h1 h2 hi
  | indexAddr t x i =>
    simp only [aop] at ha
    obtain ⟨v0, hv, he⟩ := Option.map_eq_some_iff.1 ha; cases he
    obtain ⟨v', h1, h2⟩ := aIndexAddr_run (w := w) hv (hρ x (by simp [Op.operands])) (hρ i (by simp [Op.operands]))
    exact .s0 h1 h2 hi
  | index t x i =>
    simp only [aop] at ha
    obtain ⟨v0, hv, he⟩ := Option.map_eq_some_iff.1 ha; cases he
    obtain ⟨h1, h2⟩ := aIndex_run (w := w) hv (hρ x (by simp [Op.operands])) (hρ i (by simp [Op.operands]))
    exact .s0 h1 (VR.flat h2) hi
  | extract x i =>
    simp only [aop] at ha
    obtain ⟨v0, hv, he⟩ := Option.map_eq_some_iff.1 ha; cases he
    obtain ⟨v', h1, h2⟩ := aExtract_run (w := w) hv (hρ x (by simp [Op.operands]))
    exact .s0 h1 h2 hi
  | call c =>
    obtain ⟨callee, args, tys⟩ := c
    cases callee with
    | builtin b =>
      simp only [aop] at ha
      have harg : ∀ x ∈ args.toList, VR P ι (ρ x) (ρ' x) := fun x hx => hρ x (by simp [Op.operands, Call.operands]; simpa using hx)
      have hex : ∀ (s : Sem Value), (∀ cs, builtin b tys ty cs (args.map ρ') = (do pure (.value (← s)) : Sem Next)) →
          execOp ρ' ⟨dst, .call ⟨.builtin b, args, tys⟩, ty, pos, after, guard⟩ = (do pure (.value (← s)) : Sem Next) := by
        intro s hs
        simp only [execOp, resolve, invoke, pure_bind]
        exact hs _
      unfold aBuiltin at ha
      split at ha
      · rename_i t x ht hx
        obtain ⟨v0, hv, he⟩ := Option.map_eq_some_iff.1 ha; cases he
        obtain ⟨y, hy⟩ : ∃ y, args = #[y] := by
          have : args.toList.length = 1 := by have := congrArg List.length hx; simpa using this
          match args, this with | ⟨[y]⟩, _ => exact ⟨y, rfl⟩
        subst hy
        have ht' : tys = #[t] := Array.ext' (by simpa using ht)
        subst ht'
        simp at hx; subst hx
        obtain ⟨h1, h2⟩ := aLen_run (ty := ty) (w := w) hv (harg y (by simp))
        rw [hex (Builtin.len_ #[t] ty #[ρ' y]) (fun _ => by simp [builtin])]
        exact .s0 h1 (VR.flat h2) hi
      · rename_i t t' s x ht hx
        obtain ⟨y, z, hy⟩ : ∃ y z, args = #[y, z] := by
          have : args.toList.length = 2 := by have := congrArg List.length hx; simpa using this
          match args, this with | ⟨[y, z]⟩, _ => exact ⟨y, z, rfl⟩
        subst hy
        have ht' : tys = #[t, t'] := Array.ext' (by simpa using ht)
        subst ht'
        simp at hx; obtain ⟨rfl, rfl⟩ := hx
        obtain ⟨v', w', ι', h1, h2, h3⟩ := aAppend_run (ty := ty) ha (harg y (by simp)) (harg z (by simp)) hi hf (fun k hk => hobj k (by simpa [tOp] using hk))
        rw [hex (Builtin.append_ #[t, t'] ty #[ρ' y, ρ' z]) (fun _ => by simp [builtin])]
        exact .s1 h1 h2 h3
      · rename_i t t' s x ht hx
        split at ha
        · rename_i htt
          subst htt
          obtain ⟨y, z, hy⟩ : ∃ y z, args = #[y, z] := by
            have : args.toList.length = 2 := by have := congrArg List.length hx; simpa using this
            match args, this with | ⟨[y, z]⟩, _ => exact ⟨y, z, rfl⟩
          subst hy
          have ht' : tys = #[t, t] := Array.ext' (by simpa using ht)
          subst ht'
          simp at hx; obtain ⟨rfl, rfl⟩ := hx
          obtain ⟨w', h1, h2, h3⟩ := aCopy_run (ty := ty) ha (harg y (by simp)) (harg z (by simp)) hi (fun k hk => hobj k (by simpa [tOp] using hk))
          rw [hex (Builtin.copy_ #[t, t] ty #[ρ' y, ρ' z]) (fun _ => by simp [builtin])]
          exact .s1 h1 (VR.flat h2) h3
        · cases ha
      · rename_i t x ht hx
        obtain ⟨y, hy⟩ : ∃ y, args = #[y] := by
          have : args.toList.length = 1 := by have := congrArg List.length hx; simpa using this
          match args, this with | ⟨[y]⟩, _ => exact ⟨y, rfl⟩
        subst hy
        have ht' : tys = #[t] := Array.ext' (by simpa using ht)
        subst ht'
        simp at hx; subst hx
        obtain ⟨w', h1, h2, h3⟩ := aClear_run (ty := ty) ha (harg y (by simp)) hi (fun k hk => hobj k (by simpa [tOp] using hk))
        rw [hex (Builtin.clear_ #[t] ty #[ρ' y]) (fun _ => by simp [builtin])]
        subst h2
        exact .s1 h1 VR.undef h3
      · rename_i k a k' bb hx
        split at ha
        · rename_i hk
          subst hk
          cases ha
          obtain ⟨y, z, hy⟩ : ∃ y z, args = #[y, z] := by
            have : args.toList.length = 2 := by have := congrArg List.length hx; simpa using this
            match args, this with | ⟨[y, z]⟩, _ => exact ⟨y, z, rfl⟩
          subst hy
          simp at hx
          have h1 := harg y (by simp)
          have h2 := harg z (by simp)
          rw [hx.1] at h1; rw [hx.2] at h2
          generalize hy' : ρ' y = vy at h1
          generalize hz' : ρ' z = vz at h2
          cases h1; cases h2
          rw [hex (Builtin.min_ tys ty #[ρ' y, ρ' z]) (fun _ => by simp [builtin]), hy', hz']
          exact .s0 (s := Builtin.min_ tys ty #[.int k a, .int k bb]) (by simp [Builtin.min_, Builtin.min2]) (.int _ _) hi
        · cases ha
      · rename_i k a k' bb hx
        split at ha
        · rename_i hk
          subst hk
          cases ha
          obtain ⟨y, z, hy⟩ : ∃ y z, args = #[y, z] := by
            have : args.toList.length = 2 := by have := congrArg List.length hx; simpa using this
            match args, this with | ⟨[y, z]⟩, _ => exact ⟨y, z, rfl⟩
          subst hy
          simp at hx
          have h1 := harg y (by simp)
          have h2 := harg z (by simp)
          rw [hx.1] at h1; rw [hx.2] at h2
          generalize hy' : ρ' y = vy at h1
          generalize hz' : ρ' z = vz at h2
          cases h1; cases h2
          rw [hex (Builtin.max_ tys ty #[ρ' y, ρ' z]) (fun _ => by simp [builtin]), hy', hz']
          exact .s0 (s := Builtin.max_ tys ty #[.int k a, .int k bb]) (by simp [Builtin.max_, Builtin.max2]) (.int _ _) hi
        · cases ha
      · cases ha
    | _ => simp [aop] at ha
  | _ => simp [aop] at ha
end
end Go.AM

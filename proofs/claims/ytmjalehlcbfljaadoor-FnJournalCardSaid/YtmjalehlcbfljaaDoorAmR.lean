/- A part of the abstract machine's laws: steps, calls and loops over abstract heaps. -/
import Derived.Test.YtmjalehlcbfljaaDoorAmQ
set_option linter.unusedSectionVars false
set_option linter.defProp false
set_option linter.unusedVariables false
set_option linter.unusedSimpArgs false
set_option linter.unnecessarySimpa false
namespace Go.AM
open Go
variable [Ground]

/-! ### the walk as a rewriting -/
def gwant (ds : List (Option Nat)) (fr : List Value) : Option (Nat × Bool) → Option Bool
  | none => some true
  | some (j, want) => match (ds.getD j none).bind (fr[·]?) with
    | some (.bool b) => some (b == want)
    | some (.tuple _) => some false
    | none => some false
    | _ => none
def dsOf (ops : List Oper) : List (Option Nat) := ops.map (·.dst)

/-- How a region is walked: in the text's order, or in any. -/
inductive Ctx where
  | pl (ds : List (Option Nat))
  | dr (ds : List (Option Nat)) (b : List Nat) (n0 j : Nat) (acc : List (Nat × List Nat × List Nat))
def Ctx.ds : Ctx → List (Option Nat)
  | .pl ds => ds
  | .dr ds _ _ _ _ => ds
def Ctx.add (c : Ctx) (T W : List Nat) : Ctx := match c with
  | .pl ds => .pl ds
  | .dr ds b n0 j acc => .dr ds b n0 (j + 1) ((j, T, W) :: acc)
def Ctx.skip (c : Ctx) : Ctx := match c with
  | .pl ds => .pl ds
  | .dr ds b n0 j acc => .dr ds b n0 (j + 1) acc
def Ctx.ok (c : Ctx) (T W : List Nat) : Prop := match c with
  | .pl _ => True
  | .dr _ b _ j acc => dsj b acc j T W
/-- Does an operation look into the heap? -/
def tch : Op → Bool
  | .load .. | .store .. | .convert .. => true
  | .call ⟨.builtin .append, _, _⟩ | .call ⟨.builtin .copy, _, _⟩ | .call ⟨.builtin .clear, _, _⟩ => true
  | _ => false
def acallK (P : Program) (c : Ctx) (k : FuncId) (args : List Value) (h : AHeap) (M : Ctx → Value → AHeap → Prop) : Prop :=
  match c with
  | .pl ds => ∃ v h', AC P k args h v h' ∧ M (.pl ds) v h'
  | .dr ds b n0 j acc => ∃ g v g' T W, HLe g h ∧ AC P k args g v g' ∧ CallTW n0 g g' T W ∧ dsj b acc j T W ∧ M (.dr ds b n0 (j + 1) ((j, T, W) :: acc)) v (mg g h g')
def finK (M : Value → AHeap → Prop) : Option (Value × AHeap) → Prop
  | some (v, h') => M v h'
  | none => False
def asK (P : Program) (c : Ctx) (op : Op) (fr : List Value) (h : AHeap) (M : Ctx → Value → AHeap → Prop) : Prop :=
  match op with
  | .call ⟨.value f, args, _⟩ => match ev fr f with
    | .func (.func k) first captured => acallK P c k (first.toList ++ args.toList.map (ev fr) ++ captured.toList) h M
    | _ => False
  | op => if tch op = true then c.ok (tOp op (ev fr)) (wOp op (ev fr)) ∧ finK (M (c.add (tOp op (ev fr)) (wOp op (ev fr)))) (aop P op (ev fr) h) else finK (M c.skip) (aop P op (ev fr) h)
def AX (P : Program) : Ctx → List Oper → List Value → AHeap → (List Value → AHeap → Prop) → Prop
  | _, [], fr, h, K => K fr h
  | c, o :: r, fr, h, K => match gwant c.ds fr o.guard with
    | some b => (b = true → asK P c o.op fr h fun c' v h' => AX P c' r (aput fr o.dst v) h' K) ∧ (b = false → AX P c.skip r (aput fr o.dst undef) h K)
    | none => False

theorem gwant_eq (ops : List Oper) (fr : List Value) (o : Oper) : awant ops fr o = gwant (dsOf ops) fr o.guard := by
  unfold awant gwant dsOf
  cases o.guard with
  | none => rfl
  | some g =>
    obtain ⟨j, want⟩ := g
    have : (ops.map (·.dst)).getD j none = (ops[j]?).bind (·.dst) := by
      rw [List.getD_eq_getElem?_getD, List.getElem?_map]
      cases ops[j]? <;> rfl
    simp only [this]
    rfl

section
variable {P : Program}
theorem AX_AW {ops : List Oper} {K : List Value → AHeap → Prop} : ∀ (l : List Oper) (fr : List Value) (h : AHeap), AX P (.pl (dsOf ops)) l fr h K → AW P ops l fr h K := by
  intro l
  induction l with
  | nil => intro fr h hk; exact hk
  | cons o r ih =>
    intro fr h hx
    unfold AX at hx
    unfold AW
    rw [gwant_eq]
    simp only [Ctx.ds] at hx
    split at hx
    · rename_i c hc
      rw [hc]
      obtain ⟨h1, h2⟩ := hx
      cases c with
      | false => exact ih _ _ (h2 rfl)
      | true =>
        have h3 := h1 rfl
        simp only []
        obtain ⟨dst, op, ty, pos, af, g⟩ := o
        unfold asK at h3
        simp only at h3
        split at h3
        · rename_i f args tys
          simp only [callOf]
          split at h3
          · rename_i k first captured hev
            rw [hev]
            obtain ⟨v, h', h4, h5⟩ := h3
            exact ⟨v, h', h4, ih _ _ h5⟩
          · exact h3.elim
        · rename_i hne
          have hcall : callOf ⟨dst, op, ty, pos, af, g⟩ (ev fr) = none := by
            unfold callOf
            split
            · rename_i f args tys hop; exact (hne f args tys hop).elim
            · rfl
          rw [hcall]
          simp only []
          have h4 : finK (fun v h' => AX P (.pl (dsOf ops)) r (aput fr dst v) h' K) (aop P op (ev fr) h) := by
            split at h3
            · exact h3.2
            · exact h3
          cases ha : aop P op (ev fr) h with
          | none => rw [ha] at h4; exact h4.elim
          | some x => rw [ha] at h4; exact ih _ _ h4
    · exact hx.elim

theorem tch_none {op : Op} (ht : ¬ tch op = true) (ρ : Operand → Value) : tOp op ρ = [] ∧ wOp op ρ = [] := by
  cases op with
  | load t a => exact (ht rfl).elim
  | store t a x => exact (ht rfl).elim
  | convert a b x => exact (ht rfl).elim
  | call c =>
    obtain ⟨cl, args, tys⟩ := c
    cases cl with
    | builtin b => cases b <;> first | exact (ht rfl).elim | exact ⟨rfl, rfl⟩ | (refine ⟨rfl, ?_⟩; simp [wOp, wBuiltin])
    | _ => exact ⟨rfl, rfl⟩
  | _ => exact ⟨rfl, rfl⟩

theorem dsj_of {b : List Nat} {j : Nat} {T W : List Nat} : ∀ (acc : List (Nat × List Nat × List Nat)), (∀ x ∈ acc, ordb b x.1 j = true ∨ Dis x.2.1 x.2.2 T W) → dsj b acc j T W := by
  intro acc
  induction acc with
  | nil => intro _; trivial
  | cons y r ih => intro h; exact ⟨h y (by simp), ih fun x hx => h x (by simp [hx])⟩

theorem AX_ADW {ops : List Oper} {n0 : Nat} {K : List Value → AHeap → Prop} : ∀ (l : List Oper) (j : Nat) (acc acc' : List (Nat × List Nat × List Nat)) (fr : List Value) (h : AHeap), (∀ x ∈ acc', x ∈ acc ∨ (x.2.1 = [] ∧ x.2.2 = [])) →
    AX P (.dr (dsOf ops) (befs ops []) n0 j acc) l fr h K → ADW P ops n0 j acc' l fr h K := by
  intro l
  induction l with
  | nil => intro j acc acc' fr h _ hk; exact hk
  | cons o r ih =>
    intro j acc acc' fr h hacc hx
    have hnil : ∀ T W, dsj (befs ops []) acc j T W → dsj (befs ops []) acc' j T W := by
      intro T W hd
      refine dsj_of _ fun x hx => ?_
      rcases hacc x hx with h | ⟨h1, h2⟩
      · exact dsj_mem acc hd x h
      · exact .inr (by rw [h1, h2]; exact ⟨by simp, by simp⟩)
    have hcons : ∀ (T W : List Nat), ∀ x ∈ (j, T, W) :: acc', x ∈ (j, T, W) :: acc ∨ (x.2.1 = [] ∧ x.2.2 = []) := by
      intro T W x hx
      rcases List.mem_cons.1 hx with rfl | hx
      · exact .inl (by simp)
      · rcases hacc x hx with h | h
        · exact .inl (by simp [h])
        · exact .inr h
    have hskip : ∀ x ∈ (j, ([] : List Nat), ([] : List Nat)) :: acc', x ∈ acc ∨ (x.2.1 = [] ∧ x.2.2 = []) := by
      intro x hx
      rcases List.mem_cons.1 hx with rfl | hx
      · exact .inr ⟨rfl, rfl⟩
      · exact hacc x hx
    unfold AX at hx
    unfold ADW
    rw [gwant_eq]
    simp only [Ctx.ds] at hx
    split at hx
    · rename_i c hc
      rw [hc]
      obtain ⟨h1, h2⟩ := hx
      cases c with
      | false => exact ih _ _ _ _ _ hskip (h2 rfl)
      | true =>
        have h3 := h1 rfl
        simp only []
        obtain ⟨dst, op, ty, pos, af, g⟩ := o
        unfold asK at h3
        simp only at h3
        split at h3
        · rename_i f args tys
          simp only [callOf]
          split at h3
          · rename_i k first captured hev
            rw [hev]
            obtain ⟨g, v, g', T, W, k1, k2, k3, k4, k5⟩ := h3
            exact ⟨g, v, g', T, W, k1, k2, k3, hnil _ _ k4, ih _ _ _ _ _ (hcons T W) k5⟩
          · exact h3.elim
        · rename_i hne
          have hcall : callOf ⟨dst, op, ty, pos, af, g⟩ (ev fr) = none := by
            unfold callOf
            split
            · rename_i f args tys hop; exact (hne f args tys hop).elim
            · rfl
          rw [hcall]
          simp only []
          split at h3
          · obtain ⟨h4, h5⟩ := h3
            cases ha : aop P op (ev fr) h with
            | none => rw [ha] at h5; exact h5.elim
            | some x => rw [ha] at h5; exact ⟨hnil _ _ h4, ih _ _ _ _ _ (hcons _ _) h5⟩
          · rename_i ht
            obtain ⟨e1, e2⟩ := tch_none ht (ev fr)
            rw [e1, e2]
            cases ha : aop P op (ev fr) h with
            | none => rw [ha] at h3; exact h3.elim
            | some x => rw [ha] at h3; exact ⟨dsj_of _ fun x hx => .inr ⟨by simp, by simp⟩, ih _ _ _ _ _ hskip h3⟩
    · exact hx.elim

/-- What is asked of the regions whose order is drawn. -/
def dchk : Code → Bool
  | .seq x y => dchk x && dchk y
  | .cond _ x y => dchk x && dchk y
  | .block _ c => dchk c
  | .loop c => dchk c
  | .region _ ops true => chk ops.toList
  | _ => true
def dOK (P : Program) (c : Code) : Prop := dchk c = true ∧ P.follows .mixedOrders = true
def WX (P : Program) : Code → List Value → AHeap → Kont → Prop
  | .skip, fr, h, K => K .normal fr h
  | .ret, fr, h, K => K .ret fr h
  | .exit id, fr, h, K => K (.exit id) fr h
  | .seq x y, fr, h, K => WX P x fr h (kthen (fun fr h => WX P y fr h K) K)
  | .block id c, fr, h, K => WX P c fr h (kblock id K)
  | .cond o x y, fr, h, K => match ev fr o with
    | .bool b => (b = true → WX P x fr h K) ∧ (b = false → WX P y fr h K)
    | _ => False
  | .region _ ops false, fr, h, K => AX P (.pl (dsOf ops.toList)) ops.toList fr h (K .normal)
  | .region _ ops true, fr, h, K => AX P (.dr (dsOf ops.toList) (befs ops.toList []) h.length 0 []) ops.toList fr h (K .normal)
  | .loop c, fr, h, K => dOK P c → CL P c K fr h
  | _, _, _, _ => False

theorem WX_CW : ∀ (c : Code) (fr : List Value) (h : AHeap) (K : Kont), dOK P c → WX P c fr h K → CW P c fr h K := by
  intro c
  induction c with
  | skip => intro fr h K _ hx; exact .skip hx
  | ret => intro fr h K _ hx; exact .ret hx
  | exit id => intro fr h K _ hx; exact .exit hx
  | seq x y ih1 ih2 =>
    intro fr h K hd hx
    obtain ⟨hd, hm⟩ := hd
    simp only [dchk, Bool.and_eq_true] at hd
    refine .seq ((ih1 _ _ _ ⟨hd.1, hm⟩ hx).mono fun e fr h k => ?_)
    cases e with
    | normal => exact ih2 _ _ _ ⟨hd.2, hm⟩ k
    | _ => exact k
  | block id c ih => intro fr h K hd hx; exact .block (ih _ _ _ hd hx)
  | cond o x y ih1 ih2 =>
    intro fr h K hd hx
    obtain ⟨hd, hm⟩ := hd
    simp only [dchk, Bool.and_eq_true] at hd
    unfold WX at hx
    split at hx
    · rename_i b hb
      refine .cond b hb ?_
      cases b with
      | true => exact ih1 _ _ _ ⟨hd.1, hm⟩ (hx.1 rfl)
      | false => exact ih2 _ _ _ ⟨hd.2, hm⟩ (hx.2 rfl)
    · exact hx.elim
  | region id ops d =>
    intro fr h K hd hx
    cases d with
    | false => exact .region (AX_AW _ _ _ hx)
    | true => exact .drawn hd.2 hd.1 (AX_ADW _ _ _ _ _ _ (by simp) hx)
  | loop c _ => intro fr h K hd hx; exact .loop (hx hd)
  | _ => intro fr h K _ hx; exact hx.elim

/-! ### a stack of what is still to do -/
inductive Fr where
  | code (c : Code)
  | blk (id : Nat)
  | lp (c : Code)
  | ops (c : Ctx) (l : List Oper)

variable (P) in
def kont : List Fr → Kont → Kont
  | [], K => K
  | .code c :: s, K => kthen (fun fr h => WX P c fr h (kont s K)) (kont s K)
  | .blk id :: s, K => kblock id (kont s K)
  | .lp c :: s, K => kthen (fun fr h => dOK P c → CL P c (kont s K) fr h) (kont s K)
  | .ops c l :: s, K => kthen (fun fr h => AX P c l fr h (kont s K .normal)) (kont s K)

variable (P) in
def run (s : List Fr) (fr : List Value) (h : AHeap) (K : Kont) : Prop := kont P s K .normal fr h
variable (P) in
def unw (id : Nat) (s : List Fr) (fr : List Value) (h : AHeap) (K : Kont) : Prop := kont P s K (.exit id) fr h
variable (P) in
/-- At the head of a round of a loop. -/
def RL (c : Code) (s : List Fr) (K : Kont) (fr : List Value) (h : AHeap) : Prop := dOK P c → CL P c (kont P s K) fr h

theorem run_nil (fr : List Value) (h : AHeap) (K : Kont) : run P [] fr h K = K .normal fr h := Eq.trans rfl rfl
theorem run_seq (x y : Code) (s : List Fr) (fr : List Value) (h : AHeap) (K : Kont) : run P (.code (.seq x y) :: s) fr h K = run P (.code x :: .code y :: s) fr h K := Eq.trans rfl rfl
theorem run_skip (s : List Fr) (fr : List Value) (h : AHeap) (K : Kont) : run P (.code .skip :: s) fr h K = run P s fr h K := Eq.trans rfl rfl
theorem kont_ret (s : List Fr) (K : Kont) (fr : List Value) (h : AHeap) : kont P s K .ret fr h = K .ret fr h := by
  induction s with
  | nil => rfl
  | cons x s ih => cases x <;> exact ih
theorem run_ret (s : List Fr) (fr : List Value) (h : AHeap) (K : Kont) : run P (.code .ret :: s) fr h K = K .ret fr h := kont_ret s K fr h
theorem run_exit (id : Nat) (s : List Fr) (fr : List Value) (h : AHeap) (K : Kont) : run P (.code (.exit id) :: s) fr h K = unw P id s fr h K := Eq.trans rfl rfl
theorem run_block (id : Nat) (c : Code) (s : List Fr) (fr : List Value) (h : AHeap) (K : Kont) : run P (.code (.block id c) :: s) fr h K = run P (.code c :: .blk id :: s) fr h K := Eq.trans rfl rfl
theorem run_blk (id : Nat) (s : List Fr) (fr : List Value) (h : AHeap) (K : Kont) : run P (.blk id :: s) fr h K = run P s fr h K := Eq.trans rfl rfl
theorem run_loop (c : Code) (s : List Fr) (fr : List Value) (h : AHeap) (K : Kont) : run P (.code (.loop c) :: s) fr h K = RL P c s K fr h := Eq.trans rfl rfl
theorem run_lp (c : Code) (s : List Fr) (fr : List Value) (h : AHeap) (K : Kont) : run P (.lp c :: s) fr h K = RL P c s K fr h := Eq.trans rfl rfl
theorem unw_code (id : Nat) (c : Code) (s : List Fr) (fr : List Value) (h : AHeap) (K : Kont) : unw P id (.code c :: s) fr h K = unw P id s fr h K := Eq.trans rfl rfl
theorem unw_lp (id : Nat) (c : Code) (s : List Fr) (fr : List Value) (h : AHeap) (K : Kont) : unw P id (.lp c :: s) fr h K = unw P id s fr h K := Eq.trans rfl rfl
theorem unw_blk (id i : Nat) (s : List Fr) (fr : List Value) (h : AHeap) (K : Kont) : unw P id (.blk i :: s) fr h K = if id = i then run P s fr h K else unw P id s fr h K := Eq.trans rfl rfl

/-- A round. -/
theorem RL.round {c : Code} {s : List Fr} {K : Kont} {fr : List Value} {h : AHeap} (hx : run P (.code c :: .lp c :: s) fr h K) : RL P c s K fr h := fun hd => CL.round ((WX_CW _ _ _ _ hd hx).mono fun e fr h k => by
    cases e with
    | normal => exact k hd
    | _ => exact k)
theorem RL.forget {c : Code} {s : List Fr} {K : Kont} {fr fr0 : List Value} {h h0 : AHeap} (hf : FLe fr fr0) (hh : HLe h h0) (hc : RL P c s K fr h) : RL P c s K fr0 h0 := fun hd => CL.forget hf hh (hc hd)

variable (P) in
def cnd (x y : Code) (s : List Fr) (fr : List Value) (h : AHeap) (K : Kont) : Value → Prop
  | .bool b => (b = true → run P (.code x :: s) fr h K) ∧ (b = false → run P (.code y :: s) fr h K)
  | _ => False
theorem run_cond (o : Operand) (x y : Code) (s : List Fr) (fr : List Value) (h : AHeap) (K : Kont) : run P (.code (.cond o x y) :: s) fr h K = cnd P x y s fr h K (ev fr o) := by
  show WX P (.cond o x y) fr h (kont P s K) = _
  unfold WX cnd
  cases ev fr o <;> rfl
theorem cnd_true (x y : Code) (s : List Fr) (fr : List Value) (h : AHeap) (K : Kont) : cnd P x y s fr h K (.bool true) = run P (.code x :: s) fr h K := by simp [cnd]
theorem cnd_false (x y : Code) (s : List Fr) (fr : List Value) (h : AHeap) (K : Kont) : cnd P x y s fr h K (.bool false) = run P (.code y :: s) fr h K := by simp [cnd]
theorem cnd_dec (x y : Code) (s : List Fr) (fr : List Value) (h : AHeap) (K : Kont) (p : Prop) [Decidable p] : cnd P x y s fr h K (.bool (decide p)) = ((p → run P (.code x :: s) fr h K) ∧ (¬ p → run P (.code y :: s) fr h K)) := by simp [cnd]
theorem cnd_ndec (x y : Code) (s : List Fr) (fr : List Value) (h : AHeap) (K : Kont) (p : Prop) [Decidable p] : cnd P x y s fr h K (.bool !(decide p)) = ((p → run P (.code y :: s) fr h K) ∧ (¬ p → run P (.code x :: s) fr h K)) := by simp [cnd, and_comm]
theorem cnd_bool (x y : Code) (s : List Fr) (fr : List Value) (h : AHeap) (K : Kont) (b : Bool) : cnd P x y s fr h K (.bool b) = ((b = true → run P (.code x :: s) fr h K) ∧ (b = false → run P (.code y :: s) fr h K)) := Eq.trans rfl rfl

theorem run_region (id : Nat) (l : List Oper) (s : List Fr) (fr : List Value) (h : AHeap) (K : Kont) : run P (.code (.region id l.toArray false) :: s) fr h K = run P (.ops (.pl (dsOf l)) l :: s) fr h K := Eq.trans rfl rfl
theorem run_drawn (id : Nat) (l : List Oper) (s : List Fr) (fr : List Value) (h : AHeap) (K : Kont) : run P (.code (.region id l.toArray true) :: s) fr h K = run P (.ops (.dr (dsOf l) (befs l []) h.length 0 []) l :: s) fr h K := Eq.trans rfl rfl
theorem run_ops_nil (c : Ctx) (s : List Fr) (fr : List Value) (h : AHeap) (K : Kont) : run P (.ops c [] :: s) fr h K = run P s fr h K := Eq.trans rfl rfl

variable (P) in
def fin (c : Ctx) (r : List Oper) (s : List Fr) (dst : Option Nat) (fr : List Value) (K : Kont) : Option (Value × AHeap) → Prop
  | some (v, h') => run P (.ops c r :: s) (aput fr dst v) h' K
  | none => False
theorem fin_some (c : Ctx) (r : List Oper) (s : List Fr) (dst : Option Nat) (fr : List Value) (K : Kont) (v : Value) (h' : AHeap) :
    fin P c r s dst fr K (some (v, h')) = run P (.ops c r :: s) (aput fr dst v) h' K := Eq.trans rfl rfl
variable (P) in
def acall (c : Ctx) (r : List Oper) (s : List Fr) (dst : Option Nat) (fr : List Value) (h : AHeap) (K : Kont) (args : List Value) : Value → Prop
  | .func (.func k) first captured => acallK P c k (first.toList ++ args ++ captured.toList) h fun c' v h' => run P (.ops c' r :: s) (aput fr dst v) h' K
  | _ => False
variable (P) in
/-- One operation that is wanted. -/
def one (c : Ctx) (op : Op) (r : List Oper) (s : List Fr) (dst : Option Nat) (fr : List Value) (h : AHeap) (K : Kont) : Prop := asK P c op fr h fun c' v h' => run P (.ops c' r :: s) (aput fr dst v) h' K

theorem run_one (c : Ctx) (dst : Option Nat) (op : Op) (ty : TypeId) (pos : String) (af : Array Edge) (r : List Oper) (s : List Fr) (fr : List Value) (h : AHeap) (K : Kont) :
    run P (.ops c (⟨dst, op, ty, pos, af, none⟩ :: r) :: s) fr h K = one P c op r s dst fr h K := by
  show AX P c (⟨dst, op, ty, pos, af, none⟩ :: r) fr h _ = _
  unfold AX
  simp [gwant]
  rfl
variable (P) in
/-- An operation behind a guard whose value is c. -/
def gsel (c : Ctx) (op : Op) (r : List Oper) (s : List Fr) (dst : Option Nat) (fr : List Value) (h : AHeap) (K : Kont) (want cb : Bool) : Prop :=
  if want = cb then one P c op r s dst fr h K else run P (.ops c.skip r :: s) (aput fr dst undef) h K
variable (P) in
def grd (c : Ctx) (op : Op) (r : List Oper) (s : List Fr) (dst : Option Nat) (fr : List Value) (h : AHeap) (K : Kont) (want : Bool) (slot : Option Nat) : Option Value → Prop
  | some (.bool cb) => (cb = true → gsel P c op r s dst (aput fr slot (.bool true)) h K want true) ∧ (cb = false → gsel P c op r s dst (aput fr slot (.bool false)) h K want false)
  | some (.tuple _) => run P (.ops c.skip r :: s) (aput fr dst undef) h K
  | none => run P (.ops c.skip r :: s) (aput fr dst undef) h K
  | _ => False
theorem run_grd (c : Ctx) (dst : Option Nat) (op : Op) (ty : TypeId) (pos : String) (af : Array Edge) (j : Nat) (want : Bool) (r : List Oper) (s : List Fr) (fr : List Value) (h : AHeap) (K : Kont) :
    run P (.ops c (⟨dst, op, ty, pos, af, some (j, want)⟩ :: r) :: s) fr h K = grd P c op r s dst fr h K want (c.ds.getD j none) ((c.ds.getD j none).bind (fr[·]?)) := by
  show AX P c (⟨dst, op, ty, pos, af, some (j, want)⟩ :: r) fr h _ = _
  unfold AX grd gwant
  simp only []
  cases hs : (c.ds.getD j none) with
  | none => simp; rfl
  | some t =>
    simp only [Option.bind_some]
    cases hv : fr[t]? with
    | none => simp; rfl
    | some v =>
      have hset : ∀ b, v = .bool b → aput fr (some t) (.bool b) = fr := by
        intro b hb
        subst hb
        simp only [aput]
        obtain ⟨h1, h2⟩ := List.getElem?_eq_some_iff.1 hv
        rw [← h2]; exact List.set_getElem_self h1
      cases v with
      | bool b =>
        have := hset b rfl
        simp only [gsel, one]
        cases b <;> cases want <;> simp [this] <;> rfl
      | tuple vs => simp; rfl
      | _ => simp
theorem gsel_tt (c : Ctx) (op : Op) (r : List Oper) (s : List Fr) (dst : Option Nat) (fr : List Value) (h : AHeap) (K : Kont) : gsel P c op r s dst fr h K true true = one P c op r s dst fr h K := by simp [gsel]
theorem gsel_ff (c : Ctx) (op : Op) (r : List Oper) (s : List Fr) (dst : Option Nat) (fr : List Value) (h : AHeap) (K : Kont) : gsel P c op r s dst fr h K false false = one P c op r s dst fr h K := by simp [gsel]
theorem gsel_tf (c : Ctx) (op : Op) (r : List Oper) (s : List Fr) (dst : Option Nat) (fr : List Value) (h : AHeap) (K : Kont) : gsel P c op r s dst fr h K true false = run P (.ops c.skip r :: s) (aput fr dst undef) h K := by simp [gsel]
theorem gsel_ft (c : Ctx) (op : Op) (r : List Oper) (s : List Fr) (dst : Option Nat) (fr : List Value) (h : AHeap) (K : Kont) : gsel P c op r s dst fr h K false true = run P (.ops c.skip r :: s) (aput fr dst undef) h K := by simp [gsel]
theorem grd_none (c : Ctx) (op : Op) (r : List Oper) (s : List Fr) (dst : Option Nat) (fr : List Value) (h : AHeap) (K : Kont) (want : Bool) (slot : Option Nat) : grd P c op r s dst fr h K want slot none = run P (.ops c.skip r :: s) (aput fr dst undef) h K := Eq.trans rfl rfl
theorem grd_undef (c : Ctx) (op : Op) (r : List Oper) (s : List Fr) (dst : Option Nat) (fr : List Value) (h : AHeap) (K : Kont) (want : Bool) (slot : Option Nat) : grd P c op r s dst fr h K want slot (some undef) = run P (.ops c.skip r :: s) (aput fr dst undef) h K := Eq.trans rfl rfl
theorem grd_true (c : Ctx) (op : Op) (r : List Oper) (s : List Fr) (dst : Option Nat) (fr : List Value) (h : AHeap) (K : Kont) (want : Bool) (slot : Option Nat) : grd P c op r s dst fr h K want slot (some (.bool true)) = gsel P c op r s dst (aput fr slot (.bool true)) h K want true := by simp [grd]
theorem grd_false (c : Ctx) (op : Op) (r : List Oper) (s : List Fr) (dst : Option Nat) (fr : List Value) (h : AHeap) (K : Kont) (want : Bool) (slot : Option Nat) : grd P c op r s dst fr h K want slot (some (.bool false)) = gsel P c op r s dst (aput fr slot (.bool false)) h K want false := by simp [grd]
theorem grd_dec (c : Ctx) (op : Op) (r : List Oper) (s : List Fr) (dst : Option Nat) (fr : List Value) (h : AHeap) (K : Kont) (want : Bool) (slot : Option Nat) (p : Prop) [Decidable p] : grd P c op r s dst fr h K want slot (some (.bool (decide p))) =
    ((p → gsel P c op r s dst (aput fr slot (.bool true)) h K want true) ∧ (¬ p → gsel P c op r s dst (aput fr slot (.bool false)) h K want false)) := by simp [grd]
theorem grd_ndec (c : Ctx) (op : Op) (r : List Oper) (s : List Fr) (dst : Option Nat) (fr : List Value) (h : AHeap) (K : Kont) (want : Bool) (slot : Option Nat) (p : Prop) [Decidable p] : grd P c op r s dst fr h K want slot (some (.bool !(decide p))) =
    ((p → gsel P c op r s dst (aput fr slot (.bool false)) h K want false) ∧ (¬ p → gsel P c op r s dst (aput fr slot (.bool true)) h K want true)) := by simp [grd, and_comm]
theorem grd_bool (c : Ctx) (op : Op) (r : List Oper) (s : List Fr) (dst : Option Nat) (fr : List Value) (h : AHeap) (K : Kont) (want : Bool) (slot : Option Nat) (cb : Bool) : grd P c op r s dst fr h K want slot (some (.bool cb)) =
    ((cb = true → gsel P c op r s dst (aput fr slot (.bool true)) h K want true) ∧ (cb = false → gsel P c op r s dst (aput fr slot (.bool false)) h K want false)) := Eq.trans rfl rfl

variable (c : Ctx) (r : List Oper) (s : List Fr) (dst : Option Nat) (fr : List Value) (h : AHeap) (K : Kont)
theorem one_call (f : Operand) (args : Array Operand) (tys : Array TypeId) : one P c (.call ⟨.value f, args, tys⟩) r s dst fr h K = acall P c r s dst fr h K (args.toList.map (ev fr)) (ev fr f) := by
  unfold one asK acall
  simp only []
theorem one_move (x : Operand) : one P c (.move x) r s dst fr h K = run P (.ops c.skip r :: s) (aput fr dst (ev fr x)) h K := Eq.trans rfl rfl
theorem one_assign (x : Operand) : one P c (.assign x) r s dst fr h K = run P (.ops c.skip r :: s) (aput fr dst (ev fr x)) h K := Eq.trans rfl rfl
theorem one_pick (x a b : Operand) : one P c (.pick x a b) r s dst fr h K = fin P c.skip r s dst fr K ((aPick (ev fr x) (ev fr a) (ev fr b)).map (·, h)) := Eq.trans rfl rfl
theorem one_alloc (e : TypeId) : one P c (.alloc e) r s dst fr h K = fin P c.skip r s dst fr K (aAlloc P e h) := Eq.trans rfl rfl
theorem one_box (e : TypeId) (x : Operand) : one P c (.box e x) r s dst fr h K = fin P c.skip r s dst fr K (aBox e (ev fr x) h) := Eq.trans rfl rfl
theorem one_build (t : TypeId) (parts : Array (Nat × Operand)) : one P c (.build t parts) r s dst fr h K = fin P c.skip r s dst fr K ((aBuild P t (parts.toList.map fun x => (x.1, ev fr x.2))).map (·, h)) := Eq.trans rfl rfl
theorem one_buildSlice (t : TypeId) (len : Nat) (parts : Array (Nat × Operand)) : one P c (.buildSlice t len parts) r s dst fr h K = fin P c.skip r s dst fr K (aBuildSlice P t len (parts.toList.map fun x => (x.1, ev fr x.2)) h) := Eq.trans rfl rfl
theorem one_load (t : TypeId) (a : Operand) : one P c (.load t a) r s dst fr h K = (c.ok (idOf (ev fr a)) [] ∧ fin P (c.add (idOf (ev fr a)) []) r s dst fr K ((aLoad P t (ev fr a) h).map (·, h))) := Eq.trans rfl rfl
theorem one_store (t : TypeId) (a x : Operand) : one P c (.store t a x) r s dst fr h K = (c.ok (idOf (ev fr a)) (idOf (ev fr a)) ∧ fin P (c.add (idOf (ev fr a)) (idOf (ev fr a))) r s dst fr K ((aStore P t (ev fr a) (ev fr x) h).map fun h' => (undef, h'))) := Eq.trans rfl rfl
def aNil (x : Value) : Option Value := match x with | .pointer (some a) => some (.pointer (some a)) | _ => none
theorem one_nilCheck (x : Operand) : one P c (.nilCheck x) r s dst fr h K = fin P c.skip r s dst fr K ((aNil (ev fr x)).map (·, h)) := by
  show finK _ (aop P (.nilCheck x) (ev fr) h) = _
  simp only [aop]
  cases hh : ev fr x <;> simp [aNil, fin, finK]
  rename_i a
  cases a <;> simp [finK, fin]
theorem one_binOp (op : BinOp) (t : TypeId) (x y : Operand) (ty : TypeId) : one P c (.binOp op t x y ty) r s dst fr h K = fin P c.skip r s dst fr K ((aBin P op t (ev fr x) (ev fr y)).map (·, h)) := Eq.trans rfl rfl
theorem one_unOp (op : UnOp) (t : TypeId) (x : Operand) : one P c (.unOp op t x) r s dst fr h K = fin P c.skip r s dst fr K ((aUn op (ev fr x)).map (·, h)) := Eq.trans rfl rfl
def aConvert (P : Program) (s d : TypeId) (x : Value) (h : AHeap) : Option Value := match x with
  | .int k n => aConv P s d (.int k n)
  | v => aBytesStr P s d v h
theorem one_convert (t t' : TypeId) (x : Operand) : one P c (.convert t t' x) r s dst fr h K = (c.ok (idOf (ev fr x)) [] ∧ fin P (c.add (idOf (ev fr x)) []) r s dst fr K ((aConvert P t t' (ev fr x) h).map (·, h))) := by
  have e : aop P (.convert t t' x) (ev fr) h = (aConvert P t t' (ev fr x) h).map (·, h) := by
    simp only [aop]
    cases hh : ev fr x <;> rfl
  show (c.ok (idOf (ev fr x)) [] ∧ finK _ (aop P (.convert t t' x) (ev fr) h)) = _
  rw [e]
  rfl
theorem one_makeFunc (fn : Fn) (first captured : Array Operand) : one P c (.makeFunc fn first captured) r s dst fr h K = run P (.ops c.skip r :: s) (aput fr dst (.func fn (first.map (ev fr)) (captured.map (ev fr)))) h K := Eq.trans rfl rfl
theorem one_makeInterface (t : TypeId) (x : Operand) : one P c (.makeInterface t x) r s dst fr h K = fin P c.skip r s dst fr K (if P.concrete t = true then some (.iface t (ev fr x), h) else none) := Eq.trans rfl rfl
theorem one_makeSlice (t : TypeId) (l x : Operand) : one P c (.makeSlice t l x) r s dst fr h K = fin P c.skip r s dst fr K (aMake P t (ev fr l) (ev fr x) h) := Eq.trans rfl rfl
theorem one_slice (t : TypeId) (x : Operand) (lo hi mx : Option Operand) : one P c (.slice t x lo hi mx) r s dst fr h K = fin P c.skip r s dst fr K ((aSlice P t (ev fr x) (lo.map (ev fr)) (hi.map (ev fr)) (mx.map (ev fr))).map (·, h)) := Eq.trans rfl rfl
theorem one_fieldAddr (t : TypeId) (x : Operand) (f : Nat) : one P c (.fieldAddr t x f) r s dst fr h K = fin P c.skip r s dst fr K ((aField P t (ev fr x) f).map (·, h)) := Eq.trans rfl rfl
theorem one_indexAddr (t : TypeId) (x i : Operand) : one P c (.indexAddr t x i) r s dst fr h K = fin P c.skip r s dst fr K ((aIndexAddr P t (ev fr x) (ev fr i)).map (·, h)) := Eq.trans rfl rfl
theorem one_index (t : TypeId) (x i : Operand) : one P c (.index t x i) r s dst fr h K = fin P c.skip r s dst fr K ((aIndex P t (ev fr x) (ev fr i)).map (·, h)) := Eq.trans rfl rfl
theorem one_extract (x : Operand) (i : Nat) : one P c (.extract x i) r s dst fr h K = fin P c.skip r s dst fr K ((aExtract (ev fr x) i).map (·, h)) := Eq.trans rfl rfl
theorem one_append (args : Array Operand) (tys : Array TypeId) : one P c (.call ⟨.builtin .append, args, tys⟩) r s dst fr h K = (c.ok (args.toList.flatMap fun x => idOf (ev fr x)) (wBuiltin .append (args.toList.map (ev fr))) ∧ fin P (c.add (args.toList.flatMap fun x => idOf (ev fr x)) (wBuiltin .append (args.toList.map (ev fr)))) r s dst fr K (aBuiltin P .append tys.toList (args.toList.map (ev fr)) h)) := Eq.trans rfl rfl
theorem one_copy (args : Array Operand) (tys : Array TypeId) : one P c (.call ⟨.builtin .copy, args, tys⟩) r s dst fr h K = (c.ok (args.toList.flatMap fun x => idOf (ev fr x)) (wBuiltin .copy (args.toList.map (ev fr))) ∧ fin P (c.add (args.toList.flatMap fun x => idOf (ev fr x)) (wBuiltin .copy (args.toList.map (ev fr)))) r s dst fr K (aBuiltin P .copy tys.toList (args.toList.map (ev fr)) h)) := Eq.trans rfl rfl
theorem one_clear (args : Array Operand) (tys : Array TypeId) : one P c (.call ⟨.builtin .clear, args, tys⟩) r s dst fr h K = (c.ok (args.toList.flatMap fun x => idOf (ev fr x)) (wBuiltin .clear (args.toList.map (ev fr))) ∧ fin P (c.add (args.toList.flatMap fun x => idOf (ev fr x)) (wBuiltin .clear (args.toList.map (ev fr)))) r s dst fr K (aBuiltin P .clear tys.toList (args.toList.map (ev fr)) h)) := Eq.trans rfl rfl
theorem one_len (args : Array Operand) (tys : Array TypeId) : one P c (.call ⟨.builtin .len, args, tys⟩) r s dst fr h K = fin P c.skip r s dst fr K (aBuiltin P .len tys.toList (args.toList.map (ev fr)) h) := Eq.trans rfl rfl
theorem one_min (args : Array Operand) (tys : Array TypeId) : one P c (.call ⟨.builtin .min, args, tys⟩) r s dst fr h K = fin P c.skip r s dst fr K (aBuiltin P .min tys.toList (args.toList.map (ev fr)) h) := Eq.trans rfl rfl
theorem one_max (args : Array Operand) (tys : Array TypeId) : one P c (.call ⟨.builtin .max, args, tys⟩) r s dst fr h K = fin P c.skip r s dst fr K (aBuiltin P .max tys.toList (args.toList.map (ev fr)) h) := Eq.trans rfl rfl
theorem skip_pl (ds : List (Option Nat)) : (Ctx.pl ds).skip = .pl ds := Eq.trans rfl rfl
theorem add_pl (ds : List (Option Nat)) (T W : List Nat) : (Ctx.pl ds).add T W = .pl ds := Eq.trans rfl rfl
theorem ok_pl (ds : List (Option Nat)) (T W : List Nat) : (Ctx.pl ds).ok T W = True := Eq.trans rfl rfl
theorem ds_pl (ds : List (Option Nat)) : (Ctx.pl ds).ds = ds := Eq.trans rfl rfl
theorem skip_dr (ds : List (Option Nat)) (b : List Nat) (n0 j : Nat) (acc : List (Nat × List Nat × List Nat)) : (Ctx.dr ds b n0 j acc).skip = .dr ds b n0 (j + 1) acc := Eq.trans rfl rfl
theorem add_dr (ds : List (Option Nat)) (b : List Nat) (n0 j : Nat) (acc : List (Nat × List Nat × List Nat)) (T W : List Nat) : (Ctx.dr ds b n0 j acc).add T W = .dr ds b n0 (j + 1) ((j, T, W) :: acc) := Eq.trans rfl rfl
theorem ok_dr (ds : List (Option Nat)) (b : List Nat) (n0 j : Nat) (acc : List (Nat × List Nat × List Nat)) (T W : List Nat) : (Ctx.dr ds b n0 j acc).ok T W = dsj b acc j T W := Eq.trans rfl rfl
theorem ds_dr (ds : List (Option Nat)) (b : List Nat) (n0 j : Nat) (acc : List (Nat × List Nat × List Nat)) : (Ctx.dr ds b n0 j acc).ds = ds := Eq.trans rfl rfl
theorem dsj_nil (b : List Nat) (j : Nat) (T W : List Nat) : dsj b [] j T W = True := Eq.trans rfl rfl
theorem dsj_r (b : List Nat) (i j : Nat) (T' T : List Nat) (acc : List (Nat × List Nat × List Nat)) : dsj b ((i, T', []) :: acc) j T [] = dsj b acc j T [] := by
  simp [dsj, Dis]
theorem dsj_w (b : List Nat) (i j k : Nat) (T' W' T : List Nat) (W : List Nat) (acc : List (Nat × List Nat × List Nat)) : dsj b ((i, T', W') :: acc) j T (k :: W) = ((ordb b i j = true ∨ Dis T' W' T (k :: W)) ∧ dsj b acc j T (k :: W)) := Eq.trans rfl rfl
theorem dsj_w' (b : List Nat) (i j k : Nat) (T' W' T : List Nat) (acc : List (Nat × List Nat × List Nat)) : dsj b ((i, T', k :: W') :: acc) j T [] = ((ordb b i j = true ∨ Dis T' (k :: W') T []) ∧ dsj b acc j T []) := Eq.trans rfl rfl
theorem idOf_ptr (a : Addr) : idOf (.pointer (some a)) = [a.block] := Eq.trans rfl rfl
theorem idOf_slice (a : Addr) (n c : Nat) : idOf (.slice (some a) n c) = [a.block] := Eq.trans rfl rfl
theorem idOf_nil (n c : Nat) : idOf (.slice none n c) = [] := Eq.trans rfl rfl
theorem idOf_int (k : IntKind) (n : Int) : idOf (.int k n) = [] := Eq.trans rfl rfl
theorem idOf_string (x : ByteArray) : idOf (.string x) = [] := Eq.trans rfl rfl

variable {r s dst fr h K}
theorem acall.ac {ds : List (Option Nat)} {k : FuncId} {a c : Array Value} {args : List Value} {v : Value} {h' : AHeap} (hc : AC P k (a.toList ++ args ++ c.toList) h v h') (hr : run P (.ops (.pl ds) r :: s) (aput fr dst v) h' K) : acall P (.pl ds) r s dst fr h K args (.func (.func k) a c) :=
  ⟨v, h', hc, hr⟩
theorem acall.p {ds : List (Option Nat)} {k : FuncId} {a c : Array Value} {args : List Value} {v : Value} {t : AHeap} (hc : ACp P k (a.toList ++ args ++ c.toList) h v t) (hr : run P (.ops (.pl ds) r :: s) (aput fr dst v) (h ++ t) K) : acall P (.pl ds) r s dst fr h K args (.func (.func k) a c) :=
  ⟨v, h ++ t, hc.ac, hr⟩
theorem HLe.frz (h : AHeap) : HLe (AM.frz h) h := by
  refine ⟨by simp, fun k o o0 h1 h2 => ?_⟩
  rw [frz_get, h2] at h1
  cases h1
  exact ⟨rfl, (fun hw => by cases hw), fun i v hv => Or.inr hv⟩
theorem mg_frz (h t : AHeap) : mg (AM.frz h) h (AM.frz h ++ t) = h ++ t := by
  apply List.ext_getElem?
  intro k
  rcases Nat.lt_or_ge k h.length with hk | hk
  · rw [mg_get _ _ _ k hk, List.getElem?_append_left hk, List.getElem?_eq_getElem hk, if_neg]
    rw [List.getD_eq_getElem?_getD, frz_get, List.getElem?_eq_getElem hk]
    simp
  · rw [mg_new _ _ _ k hk, List.getElem?_append_right (by simpa using hk), List.getElem?_append_right hk]
    simp
/-- A call that writes to nothing, where the order is drawn. -/
theorem acall.dp {ds : List (Option Nat)} {b : List Nat} {n0 j : Nat} {acc : List (Nat × List Nat × List Nat)} {k : FuncId} {a c : Array Value} {args : List Value} {v : Value} {t : AHeap} (hc : ACp P k (a.toList ++ args ++ c.toList) h v t) (hd : dsj b acc j (List.range h.length) [])
    (hr : run P (.ops (.dr ds b n0 (j + 1) ((j, List.range h.length, []) :: acc)) r :: s) (aput fr dst v) (h ++ t) K) : acall P (.dr ds b n0 j acc) r s dst fr h K args (.func (.func k) a c) := by
  have hn : ∀ (k : Nat) o, (AM.frz h)[k]? = some o → o.w = true → False := by
    intro k o hk hw
    rw [frz_get] at hk
    obtain ⟨o0, _, rfl⟩ := Option.map_eq_some_iff.1 hk
    cases hw
  refine ⟨AM.frz h, v, AM.frz h ++ t, List.range h.length, [], HLe.frz h, hc, ⟨fun k o hk _ => ?_, fun k => ⟨fun hk => (by cases hk), fun ⟨o, h1, h2⟩ => (hn k o h1 h2).elim⟩, fun k o h1 h2 => (hn k o h1 h2).elim, by simp⟩, hd, ?_⟩
  · have := (List.getElem?_eq_some_iff.1 hk).1
    simpa using this
  · rw [mg_frz]; exact hr
/-- A call that sees g in place of h, where the order is drawn. -/
theorem acall.dm {ds : List (Option Nat)} {b : List Nat} {n0 j : Nat} {acc : List (Nat × List Nat × List Nat)} {k : FuncId} {a c : Array Value} {args : List Value} {v : Value} {g g' : AHeap} (T W : List Nat) (hle : HLe g h) (hc : AC P k (a.toList ++ args ++ c.toList) g v g') (htw : CallTW n0 g g' T W) (hd : dsj b acc j T W)
    (hr : run P (.ops (.dr ds b n0 (j + 1) ((j, T, W) :: acc)) r :: s) (aput fr dst v) (mg g h g') K) : acall P (.dr ds b n0 j acc) r s dst fr h K args (.func (.func k) a c) :=
  ⟨g, v, g', T, W, hle, hc, htw, hd, hr⟩
end

/-! ### results -/
def fres (R : Value → AHeap → Prop) (h : AHeap) : Option Value → Prop
  | some v => R v h
  | none => False
section
variable {P : Program} (rs : List ResultVar) (R : Value → AHeap → Prop) (fr : List Value) (h : AHeap)
theorem kfun_ret : kfun P rs R .ret fr h = fres R h (aresults P rs fr h) := by
  unfold kfun fres; cases aresults P rs fr h <;> simp
theorem kfun_normal : kfun P rs R .normal fr h = fres R h (aresults P rs fr h) := by
  unfold kfun fres; cases aresults P rs fr h <;> simp
theorem fres_some (v : Value) : fres R h (some v) = R v h := Eq.trans rfl rfl
theorem ares0 : aresults P [] fr h = some (.tuple #[]) := Eq.trans rfl rfl
theorem ares1 (a : Nat) : aresults P [.tmp a] fr h = some (fr.getD a undef) := Eq.trans rfl rfl
theorem ares2 (a b : Nat) : aresults P [.tmp a, .tmp b] fr h = some (.tuple #[fr.getD a undef, fr.getD b undef]) := Eq.trans rfl rfl
theorem ares3 (a b c : Nat) : aresults P [.tmp a, .tmp b, .tmp c] fr h = some (.tuple #[fr.getD a undef, fr.getD b undef, fr.getD c undef]) := Eq.trans rfl rfl
theorem ares4 (a b c d : Nat) : aresults P [.tmp a, .tmp b, .tmp c, .tmp d] fr h = some (.tuple #[fr.getD a undef, fr.getD b undef, fr.getD c undef, fr.getD d undef]) := Eq.trans rfl rfl

theorem aresC (a : Nat) (t : TypeId) : aresults P [.cell a t] fr h = aLoad P t (fr.getD a undef) h := by
  simp only [aresults, aresult, List.mapM_cons, List.mapM_nil]
  cases aLoad P t (fr.getD a undef) h <;> rfl

variable {rs R fr h}
theorem AC.walk {f : FuncId} {fn : Func} {c : Code} {args : List Value} (hf : P.funcs[f]? = some fn) (hb : fn.body = some c) (hn : (fn.name != "runtime.NumGoroutine") = true) (hd : dchk c = true) (hm : P.follows .mixedOrders = true)
    (hc : run P [.code c] (args ++ List.replicate (fn.ntmps - args.length) undef) h (kfun P fn.results.toList R)) : ∃ v h', AC P f args h v h' ∧ R v h' :=
  AC.of hf hb hn (WX_CW _ _ _ _ ⟨hd, hm⟩ hc)
theorem ACp.walk {f : FuncId} {fn : Func} {c : Code} {args : List Value} {R : Value → AHeap → Prop} (hf : P.funcs[f]? = some fn) (hb : fn.body = some c) (hn : (fn.name != "runtime.NumGoroutine") = true) (hd : dchk c = true) (hm : P.follows .mixedOrders = true)
    (hc : run P [.code c] (args ++ List.replicate (fn.ntmps - args.length) undef) (frz h) (kfun P fn.results.toList fun v h' => ∃ t, h' = frz h ++ t ∧ R v t)) : ∃ v t, ACp P f args h v t ∧ R v t := by
  obtain ⟨v, h', h1, t, rfl, h2⟩ := AC.walk hf hb hn hd hm hc
  exact ⟨v, t, h1, h2⟩
end
end Go.AM

/- A part of the abstract machine's laws: steps, calls and loops over abstract heaps. -/
import Derived.Test.YtmjalehlcbfljaaDoorAmT
set_option linter.unusedSectionVars false
set_option linter.defProp false
set_option linter.unusedVariables false
set_option linter.unusedSimpArgs false
set_option linter.unnecessarySimpa false
namespace Go.AM
open Go
variable [Ground]

section
variable {P : Program}
theorem finK_mono {M M' : Value → AHeap → Prop} (hm : ∀ v h, M v h → M' v h) {o : Option (Value × AHeap)} (h : finK M o) : finK M' o := by
  cases o with
  | none => exact h
  | some x => exact hm _ _ h
theorem acallK_mono {c : Ctx} {k : FuncId} {args : List Value} {h : AHeap} {M M' : Ctx → Value → AHeap → Prop} (hm : ∀ c v h, M c v h → M' c v h) (hx : acallK P c k args h M) : acallK P c k args h M' := by
  cases c with
  | pl ds => obtain ⟨v, t, h1, h2⟩ := hx; exact ⟨v, t, h1, hm _ _ _ h2⟩
  | dr ds b n0 j acc => obtain ⟨g, v, g', T, W, h1, h2, h3, h4, h5⟩ := hx; exact ⟨g, v, g', T, W, h1, h2, h3, h4, hm _ _ _ h5⟩
theorem asK_mono {c : Ctx} {op : Op} {fr : List Value} {h : AHeap} {M M' : Ctx → Value → AHeap → Prop} (hm : ∀ c v h, M c v h → M' c v h) (hx : asK P c op fr h M) : asK P c op fr h M' := by
  unfold asK at hx ⊢
  split
  · split
    · rename_i hh; simp only [hh] at hx; exact acallK_mono hm hx
    · simp_all
  · rename_i hne
    split at hx
    · rename_i f args tys; exact (hne f args tys rfl).elim
    · split at hx
      · rename_i ht; rw [if_pos ht]; exact ⟨hx.1, finK_mono (hm _) hx.2⟩
      · rename_i ht; rw [if_neg ht]; exact finK_mono (hm _) hx
theorem AX_mono {K K' : List Value → AHeap → Prop} (hk : ∀ fr h, K fr h → K' fr h) : ∀ (l : List Oper) (c : Ctx) (fr : List Value) (h : AHeap), AX P c l fr h K → AX P c l fr h K' := by
  intro l
  induction l with
  | nil => intro c fr h hx; exact hk _ _ hx
  | cons o r ih =>
    intro c fr h hx
    unfold AX at hx ⊢
    split
    · rename_i b hc
      rw [hc] at hx
      exact ⟨fun e => asK_mono (fun c v h' => ih _ _ _) (hx.1 e), fun e => ih _ _ _ (hx.2 e)⟩
    · rename_i hc; rw [hc] at hx; exact hx
theorem WX_mono : ∀ (c : Code) (fr : List Value) (h : AHeap) (K K' : Kont), (∀ e fr h, K e fr h → K' e fr h) → WX P c fr h K → WX P c fr h K' := by
  intro c
  induction c with
  | skip => intro fr h K K' hk hx; exact hk _ _ _ hx
  | ret => intro fr h K K' hk hx; exact hk _ _ _ hx
  | exit id => intro fr h K K' hk hx; exact hk _ _ _ hx
  | seq x y ih1 ih2 =>
    intro fr h K K' hk hx
    refine ih1 _ _ _ _ (fun e fr h k => ?_) hx
    cases e with
    | normal => exact ih2 _ _ _ _ hk k
    | _ => exact hk _ _ _ k
  | block id c ih =>
    intro fr h K K' hk hx
    refine ih _ _ _ _ (fun e fr h k => ?_) hx
    cases e with
    | exit i =>
      simp only [kblock] at *
      split
      · rename_i e; rw [if_pos e] at k; exact hk _ _ _ k
      · rename_i e; rw [if_neg e] at k; exact hk _ _ _ k
    | _ => exact hk _ _ _ k
  | cond o x y ih1 ih2 =>
    intro fr h K K' hk hx
    unfold WX at hx ⊢
    split
    · rename_i b hb; rw [hb] at hx; exact ⟨fun e => ih1 _ _ _ _ hk (hx.1 e), fun e => ih2 _ _ _ _ hk (hx.2 e)⟩
    · rename_i hne
      split at hx
      · rename_i b hb; exact (hne b hb).elim
      · exact hx
  | region id ops d =>
    intro fr h K K' hk hx
    cases d with
    | false => exact AX_mono (fun fr h k => hk _ _ _ k) _ _ _ _ hx
    | true => exact AX_mono (fun fr h k => hk _ _ _ k) _ _ _ _ hx
  | loop c _ => intro fr h K K' hk hx hd; exact (hx hd).mono hk
  | _ => intro fr h K K' hk hx; exact hx

/-- Some slots of a frame of n slots. -/
def FrI (n : Nat) (l : List (Nat × Value)) (fr : List Value) : Prop := fr.length = n ∧ ∀ x ∈ l, fr[x.1]? = some x.2
/-- A frame of which some slots are known. -/
def flx (fr : List Value) : Nat → Nat → List (Nat × Value) → List Value
  | _, 0, _ => []
  | i, n + 1, [] => fr.getD i undef :: flx fr (i + 1) n []
  | i, n + 1, (k, v) :: r => if k = i then v :: flx fr (i + 1) n r else fr.getD i undef :: flx fr (i + 1) n ((k, v) :: r)
theorem flx_z (fr : List Value) (i : Nat) (l : List (Nat × Value)) : flx fr i 0 l = [] := by cases l <;> rfl
theorem flx_n (fr : List Value) (i n : Nat) : flx fr i (n + 1) [] = fr.getD i undef :: flx fr (i + 1) n [] := Eq.trans rfl rfl
theorem flx_c (fr : List Value) (i n k : Nat) (v : Value) (r : List (Nat × Value)) : flx fr i (n + 1) ((k, v) :: r) = if k = i then v :: flx fr (i + 1) n r else fr.getD i undef :: flx fr (i + 1) n ((k, v) :: r) := Eq.trans rfl rfl
theorem FrI.lit {n : Nat} {l : List (Nat × Value)} {fr : List Value} (hI : FrI n l fr) : fr = flx fr 0 n l := by
  have key : ∀ (m i : Nat) (l : List (Nat × Value)), i + m = fr.length → (∀ x ∈ l, fr[x.1]? = some x.2) → fr.drop i = flx fr i m l := by
    intro m
    induction m with
    | zero => intro i l h1 _; rw [flx_z]; exact List.drop_eq_nil_iff.2 (by omega)
    | succ m ih =>
      intro i l h1 h2
      have hi : i < fr.length := by omega
      have hd : fr.drop i = fr[i] :: fr.drop (i + 1) := List.drop_eq_getElem_cons hi
      have hg : fr.getD i undef = fr[i] := by simp [List.getD_eq_getElem?_getD, hi]
      rw [hd]
      cases l with
      | nil => rw [flx_n, hg, ← ih (i + 1) [] (by omega) h2]
      | cons x r =>
        obtain ⟨k, v⟩ := x
        rw [flx_c]
        split
        · rename_i e
          subst e
          have := h2 (k, v) (by simp)
          simp only [List.getElem?_eq_getElem hi, Option.some.injEq] at this
          rw [this, ← ih (k + 1) r (by omega) fun x hx => h2 x (by simp [hx])]
        · rw [hg, ← ih (i + 1) _ (by omega) h2]
  have := key n 0 l (by rw [hI.1]; omega) hI.2
  simpa using this
theorem FrI.nil (n : Nat) {fr : List Value} (h : fr.length = n) : FrI n [] fr := ⟨h, by simp⟩
theorem FrI.cons {n k : Nat} {v : Value} {l : List (Nat × Value)} {fr : List Value} (h : fr[k]? = some v) (hl : FrI n l fr) : FrI n ((k, v) :: l) fr := ⟨hl.1, by
  intro x hx
  rcases List.mem_cons.1 hx with rfl | hx
  · exact h
  · exact hl.2 x hx⟩

variable (P) in
/-- What is asked at a cut. -/
def kcut {α : Type} (n : Nat) (F : α → List (Nat × Value)) (H : α → AHeap) (ok : α → Prop) (s : List Fr) (K : Kont) : Kont := fun e fr h => match e with
  | .normal => ∃ x, ok x ∧ FrI n (F x) fr ∧ h = H x
  | e => kont P s K e fr h
theorem kcut_normal {α : Type} (n : Nat) (F : α → List (Nat × Value)) (H : α → AHeap) (ok : α → Prop) (s : List Fr) (K : Kont) (fr : List Value) (h : AHeap) : kcut P n F H ok s K .normal fr h = ∃ x, ok x ∧ FrI n (F x) fr ∧ h = H x := Eq.trans rfl rfl
theorem kcut_ret {α : Type} (n : Nat) (F : α → List (Nat × Value)) (H : α → AHeap) (ok : α → Prop) (s : List Fr) (K : Kont) (fr : List Value) (h : AHeap) : kcut P n F H ok s K .ret fr h = K .ret fr h := kont_ret s K fr h
theorem kcut_exit {α : Type} (n : Nat) (F : α → List (Nat × Value)) (H : α → AHeap) (ok : α → Prop) (s : List Fr) (K : Kont) (id : Nat) (fr : List Value) (h : AHeap) : kcut P n F H ok s K (.exit id) fr h = unw P id s fr h K := Eq.trans rfl rfl
theorem unw_nil (id : Nat) (fr : List Value) (h : AHeap) (K : Kont) : unw P id [] fr h K = K (.exit id) fr h := Eq.trans rfl rfl

theorem cut_le {α : Type} {n : Nat} {F : α → List (Nat × Value)} {H : α → AHeap} {ok : α → Prop} {s : List Fr} {K : Kont} (rest : ∀ x fr, ok x → FrI n (F x) fr → run P s fr (H x) K) :
    ∀ e fr h, kcut P n F H ok s K e fr h → kont P s K e fr h := by
  intro e fr h k
  cases e with
  | normal => obtain ⟨x, h1, h2, rfl⟩ := k; exact rest x fr h1 h2
  | _ => exact k
/-- Behind a piece of code, all ways meet. -/
theorem run_cut {α : Type} (n : Nat) (F : α → List (Nat × Value)) (H : α → AHeap) (ok : α → Prop) {c : Code} {s : List Fr} {K : Kont} {fr : List Value} {h : AHeap}
    (br : run P [.code c] fr h (kcut P n F H ok s K)) (rest : ∀ x fr, ok x → FrI n (F x) fr → run P s fr (H x) K) : run P (.code c :: s) fr h K :=
  WX_mono c fr h _ _ (cut_le rest) br
theorem cnd_cut {α : Type} (n : Nat) (F : α → List (Nat × Value)) (H : α → AHeap) (ok : α → Prop) {x y : Code} {s : List Fr} {K : Kont} {fr : List Value} {h : AHeap} {v : Value}
    (br : cnd P x y [] fr h (kcut P n F H ok s K) v) (rest : ∀ x fr, ok x → FrI n (F x) fr → run P s fr (H x) K) : cnd P x y s fr h K v := by
  cases v with
  | bool b => exact ⟨fun e => WX_mono x fr h _ _ (cut_le rest) (br.1 e), fun e => WX_mono y fr h _ _ (cut_le rest) (br.2 e)⟩
  | _ => exact br
end
end Go.AM
namespace Go.AM
open Go
variable [Ground]
/-! ### a call that writes to one object, where the order is drawn -/
/-- All but p read only. -/
def fz (p : Nat) (h : AHeap) : AHeap := h.mapIdx fun k o => if k = p then o else { o with w := false }
theorem fz_length (p : Nat) (h : AHeap) : (fz p h).length = h.length := by simp [fz]
theorem fz_get (p : Nat) (h : AHeap) (k : Nat) : (fz p h)[k]? = (h[k]?).map fun o => if k = p then o else { o with w := false } := by simp [fz]
theorem rd_fz (p : Nat) (h : AHeap) (k : Nat) : rd (fz p h) k = rd h k := by
  unfold rd; rw [fz_get]; cases h[k]? with
  | none => rfl
  | some o => simp; split <;> rfl
theorem HLe.fz (p : Nat) (h : AHeap) : HLe (fz p h) h := by
  refine ⟨fz_length p h, fun k o o0 h1 h2 => ?_⟩
  rw [fz_get, h2] at h1
  simp only [Option.map_some, Option.some.injEq] at h1
  split at h1
  · subst h1; exact ⟨rfl, id, fun i v hv => Or.inr hv⟩
  · subst h1; exact ⟨rfl, (fun hw => by cases hw), fun i v hv => Or.inr hv⟩
theorem HLe.app {g h g' h' : AHeap} (a : HLe g h) (b : HLe g' h') : HLe (g ++ g') (h ++ h') := by
  refine ⟨by simp [a.len, b.len], fun k o o0 h1 h2 => ?_⟩
  by_cases hk : k < g.length
  · rw [List.getElem?_append_left hk] at h1
    rw [List.getElem?_append_left (by rw [← a.len]; exact hk)] at h2
    exact a.obj k o o0 h1 h2
  · rw [List.getElem?_append_right (by omega)] at h1
    rw [List.getElem?_append_right (by rw [← a.len]; omega), ← a.len] at h2
    exact b.obj _ o o0 h1 h2
/-- h with the object p of h1. -/
def thaw (p : Nat) (h h1 : AHeap) : AHeap := h.set p (h1.getD p dead)
theorem thaw_length (p : Nat) (h h1 : AHeap) : (thaw p h h1).length = h.length := by simp [thaw]

variable {P : Program} {r : List Oper} {s : List Fr} {dst : Option Nat} {fr : List Value} {K : Kont}
theorem mg_fz {p : Nat} {h t h1 : AHeap} {o : AObj} (ho : h[p]? = some o) (hw : o.w = true) (hl : h1.length = h.length) (t' : AHeap) : mg (fz p h ++ frz t) (h ++ t) (h1 ++ (frz t ++ t')) = thaw p h h1 ++ (t ++ t') := by
  have hp : p < h.length := (List.getElem?_eq_some_iff.1 ho).1
  apply List.ext_getElem?
  intro k
  rcases Nat.lt_or_ge k (h ++ t).length with hk | hk
  · rw [mg_get _ _ _ k hk]
    rcases Nat.lt_or_ge k h.length with hk1 | hk1
    · rw [List.getElem?_append_left (by rw [thaw_length]; exact hk1), List.getElem_append_left hk1]
      unfold thaw
      by_cases e : k = p
      · subst e
        have e1 : (fz k h ++ frz t)[k]? = some o := by rw [List.getElem?_append_left (by rw [fz_length]; exact hk1), fz_get, ho]; simp
        rw [if_pos (by rw [List.getD_eq_getElem?_getD, e1]; exact hw), List.getElem?_set_self hp, List.getD_eq_getElem?_getD, List.getElem?_append_left (by omega), List.getElem?_eq_getElem (by omega), List.getD_eq_getElem?_getD, List.getElem?_eq_getElem (by omega)]
        rfl
      · rw [if_neg, List.getElem?_set_ne (Ne.symm e), List.getElem?_eq_getElem hk1]
        rw [List.getD_eq_getElem?_getD, List.getElem?_append_left (by rw [fz_length]; exact hk1), fz_get, List.getElem?_eq_getElem hk1]
        simp [e]
    · rw [List.getElem?_append_right (by rw [thaw_length]; exact hk1), thaw_length]
      have hkt : k - h.length < t.length := by simp at hk; omega
      rw [List.getElem?_append_left hkt, List.getElem_append_right hk1, if_neg, List.getElem?_eq_getElem hkt]
      rw [List.getD_eq_getElem?_getD, List.getElem?_append_right (by rw [fz_length]; exact hk1), fz_length, frz_get, List.getElem?_eq_getElem hkt]
      simp
  · rw [mg_new _ _ _ k hk]
    simp only [List.length_append] at hk
    rw [List.getElem?_append_right (by omega), List.getElem?_append_right (by simp; omega), List.getElem?_append_right (by rw [thaw_length]; omega), List.getElem?_append_right (by rw [thaw_length]; omega)]
    simp [hl, thaw_length]
theorem acall.d1 {ds : List (Option Nat)} {b : List Nat} {n0 j : Nat} {acc : List (Nat × List Nat × List Nat)} {k : FuncId} {a c : Array Value} {args : List Value} {v : Value} {p : Nat} {h t h1 t' : AHeap} {o o' : AObj}
    (ho : h[p]? = some o) (hw : o.w = true) (ho' : h1[p]? = some o') (hw' : o'.w = true) (hl : h1.length = h.length) (hp : p < n0)
    (hc : AC P k (a.toList ++ args ++ c.toList) (fz p h ++ frz t) v (h1 ++ (frz t ++ t'))) (hd : dsj b acc j (List.range (h ++ t).length) [p])
    (hr : run P (.ops (.dr ds b n0 (j + 1) ((j, List.range (h ++ t).length, [p]) :: acc)) r :: s) (aput fr dst v) (thaw p h h1 ++ (t ++ t')) K) : acall P (.dr ds b n0 j acc) r s dst fr (h ++ t) K args (.func (.func k) a c) := by
  have hpl : p < h.length := (List.getElem?_eq_some_iff.1 ho).1
  have hg : (fz p h ++ frz t)[p]? = some o := by rw [List.getElem?_append_left (by rw [fz_length]; exact hpl), fz_get, ho]; simp
  have only : ∀ (k : Nat) o, (fz p h ++ frz t)[k]? = some o → o.w = true → k = p := by
    intro k o2 hk hw2
    by_cases hkl : k < h.length
    · rw [List.getElem?_append_left (by rw [fz_length]; exact hkl), fz_get] at hk
      obtain ⟨o3, _, h4⟩ := Option.map_eq_some_iff.1 hk
      by_cases e : k = p
      · exact e
      · rw [if_neg e] at h4; subst h4; cases hw2
    · rw [List.getElem?_append_right (by rw [fz_length]; omega), frz_get] at hk
      obtain ⟨o3, _, rfl⟩ := Option.map_eq_some_iff.1 hk
      cases hw2
  refine acall.dm (List.range (h ++ t).length) [p] ((HLe.fz p h).app (HLe.frz t)) hc ⟨fun k o2 hk _ => ?_, fun k => ⟨fun hk => ?_, fun ⟨o2, h3, h4⟩ => by simp [only k o2 h3 h4]⟩, fun k o2 hk hw2 => ?_, fun k hk => ?_⟩ hd ?_
  · have := (List.getElem?_eq_some_iff.1 hk).1
    simpa [fz_length] using this
  · simp at hk; subst hk; exact ⟨o, hg, hw⟩
  · obtain rfl := only k o2 hk hw2
    exact ⟨o', by rw [List.getElem?_append_left (by omega)]; exact ho', hw'⟩
  · simp at hk; subst hk; exact hp
  · rw [mg_fz ho hw hl]; exact hr
theorem acall.d0 {ds : List (Option Nat)} {b : List Nat} {n0 j : Nat} {acc : List (Nat × List Nat × List Nat)} {k : FuncId} {a c : Array Value} {args : List Value} {v : Value} {p : Nat} {h t h1 : AHeap} {o o' : AObj}
    (ho : h[p]? = some o) (hw : o.w = true) (ho' : h1[p]? = some o') (hw' : o'.w = true) (hl : h1.length = h.length) (hp : p < n0)
    (hc : AC P k (a.toList ++ args ++ c.toList) (fz p h ++ frz t) v (h1 ++ frz t)) (hd : dsj b acc j (List.range (h ++ t).length) [p])
    (hr : run P (.ops (.dr ds b n0 (j + 1) ((j, List.range (h ++ t).length, [p]) :: acc)) r :: s) (aput fr dst v) (thaw p h h1 ++ t) K) : acall P (.dr ds b n0 j acc) r s dst fr (h ++ t) K args (.func (.func k) a c) :=
  acall.d1 (t' := []) ho hw ho' hw' hl hp (by rw [show frz t ++ [] = frz t from List.append_nil _]; exact hc) hd (by rw [show t ++ [] = t from List.append_nil _]; exact hr)
end Go.AM

/- The journal's plain law: what is recovered from any prefix, and from any bent byte, is a prefix of the lines. -/
import Derived.Test.YtmjalehlcbfljaaDoorDec
import Derived.Test.YtmjalehlcbfljaaDoorChk
set_option linter.unusedSectionVars false
set_option linter.defProp false
set_option linter.unusedVariables false
set_option linter.unusedSimpArgs false
set_option linter.unnecessarySimpa false
namespace Go.Proofs.YtmjalehlcbfljaaDoor
open Go Go.AM
abbrev Bs := List UInt8
def jent (c : Nat) (l : Bs) : Bs := decB (chkOf c l) ++ 32 :: (l ++ [10])
def jour : Nat → List Bs → Bs
  | _, [] => []
  | c, l :: r => jent c l ++ jour (chkOf c l) r
def jchk : Nat → List Bs → Nat
  | c, [] => c
  | c, l :: r => jchk (chkOf c l) r
theorem jour_append (c : Nat) (a b : List Bs) : jour c (a ++ b) = jour c a ++ jour (jchk c a) b := by
  induction a generalizing c with
  | nil => rfl
  | cons l r ih => simp [jour, jchk, ih]
theorem jchk_append (c : Nat) (a b : List Bs) : jchk c (a ++ b) = jchk (jchk c a) b := by
  induction a generalizing c with
  | nil => rfl
  | cons l r ih => simp [jchk, ih]
theorem chkOf_lt {c : Nat} (hc : c < 999983) (l : Bs) : chkOf c l < 999983 := by
  induction l generalizing c with
  | nil => exact hc
  | cons b r ih => exact ih (chk1_lt c b)
theorem jchk_lt {c : Nat} (hc : c < 999983) (a : List Bs) : jchk c a < 999983 := by
  induction a generalizing c with
  | nil => exact hc
  | cons l r ih => exact ih (chkOf_lt hc l)
def nlFree (l : Bs) : Prop := (10 : UInt8) ∉ l
def isDig (b : UInt8) : Bool := b = 45 ∨ (48 ≤ b.toNat ∧ b.toNat ≤ 57)
theorem digR_dig (n : Nat) : ∀ b ∈ digR n, isDig b = true := by
  induction n using Nat.strongRecOn with
  | _ n ih =>
    rcases Nat.eq_zero_or_pos n with rfl | hn
    · intro b hb; simp [digR] at hb
    · rw [digR_pos n hn]
      intro b hb
      rcases List.mem_cons.1 hb with rfl | hb
      · simp [isDig]; omega
      · exact ih _ (Nat.div_lt_self hn (by omega)) b hb
theorem decB_dig (n : Int) : ∀ b ∈ decB n, isDig b = true := by
  intro b hb
  unfold decB at hb
  split at hb
  · simp at hb; subst hb; rfl
  · rcases List.mem_append.1 hb with hb | hb
    · split at hb
      · simp at hb; subst hb; rfl
      · cases hb
    · exact digR_dig _ b (List.mem_reverse.1 hb)
theorem decB_no (n : Int) (x : UInt8) (hx : isDig x = false) : x ∉ decB n := fun h => by rw [decB_dig n x h] at hx; cases hx
/-- The first place of a byte. -/
def idx (x : UInt8) : Bs → Option Nat
  | [] => none
  | b :: r => if b = x then some 0 else (idx x r).map (· + 1)
theorem idx_none {x : UInt8} {l : Bs} : idx x l = none ↔ x ∉ l := by
  induction l with
  | nil => simp [idx]
  | cons b r ih =>
    simp only [idx]
    by_cases h : b = x
    · simp [h]
    · simp [h, ih, Ne.symm h]
theorem idx_some {x : UInt8} {l : Bs} {i : Nat} (h : idx x l = some i) : l = l.take i ++ x :: l.drop (i + 1) ∧ x ∉ l.take i ∧ i < l.length := by
  induction l generalizing i with
  | nil => simp [idx] at h
  | cons b r ih =>
    simp only [idx] at h
    by_cases hb : b = x
    · rw [if_pos hb] at h; cases h; subst hb; simp
    · rw [if_neg hb] at h
      obtain ⟨j, hj, rfl⟩ := Option.map_eq_some_iff.1 h
      obtain ⟨h1, h2, h3⟩ := ih hj
      refine ⟨by simpa using h1, by simp [h2, Ne.symm hb], by simpa using h3⟩
theorem idx_at {x : UInt8} {a b : Bs} (h : x ∉ a) : idx x (a ++ x :: b) = some a.length := by
  induction a with
  | nil => simp [idx]
  | cons c r ih =>
    simp only [List.mem_cons, not_or] at h
    simp [idx, Ne.symm h.1, ih h.2]
/-- One entry is read: its line, and what is behind it. -/
def jstep (c : Nat) (s : Bs) : Option (Bs × Nat) :=
  (idx 10 s).bind fun i => (idx 32 (s.take i)).bind fun j =>
    if decB (chkOf c ((s.take i).drop (j + 1))) ++ 32 :: (s.take i).drop (j + 1) = s.take i then some ((s.take i).drop (j + 1), i) else none
theorem jstep_ent (c : Nat) (l r : Bs) (hl : nlFree l) : jstep c (jent c l ++ r) = some (l, (decB (chkOf c l)).length + 1 + l.length) := by
  have hd10 := decB_no (chkOf c l) 10 rfl
  have hd32 := decB_no (chkOf c l) 32 rfl
  have e1 : jent c l ++ r = (decB (chkOf c l) ++ 32 :: l) ++ 10 :: r := by simp [jent]
  have h1 : idx 10 (jent c l ++ r) = some (decB (chkOf c l) ++ 32 :: l).length := by
    rw [e1]; refine idx_at ?_
    simp only [List.mem_append, List.mem_cons, not_or]
    exact ⟨hd10, by decide, hl⟩
  have e2 : (jent c l ++ r).take (decB (chkOf c l) ++ 32 :: l).length = decB (chkOf c l) ++ 32 :: l := by rw [e1]; exact List.take_left
  have h2 : idx 32 (decB (chkOf c l) ++ 32 :: l) = some (decB (chkOf c l)).length := idx_at hd32
  have e3 : (decB (chkOf c l) ++ 32 :: l).drop ((decB (chkOf c l)).length + 1) = l := by
    rw [List.drop_append, List.drop_eq_nil_of_le (by omega)]; simp
  unfold jstep
  rw [h1, Option.bind_some, e2, h2, Option.bind_some, e3, if_pos rfl]
  simp; omega
theorem jstep_some {c : Nat} {s l : Bs} {i : Nat} (h : jstep c s = some (l, i)) : s = jent c l ++ s.drop (i + 1) ∧ nlFree l ∧ i + 1 = (jent c l).length ∧ i < s.length := by
  unfold jstep at h
  obtain ⟨i', hi, h⟩ := Option.bind_eq_some_iff.1 h
  obtain ⟨j, hj, h⟩ := Option.bind_eq_some_iff.1 h
  split at h
  · rename_i he
    simp only [Option.some.injEq, Prod.mk.injEq] at h
    obtain ⟨h1, rfl⟩ := h
    rw [h1] at he
    obtain ⟨k1, k2, k3⟩ := idx_some hi
    have e : s = jent c l ++ s.drop (i' + 1) := by
      conv => lhs; rw [k1, ← he]
      simp [jent]
    refine ⟨e, ?_, ?_, k3⟩
    · intro hm
      exact k2 (by rw [← he]; simp [hm])
    · have := congrArg List.length he
      simp only [List.length_append, List.length_cons, List.length_take] at this
      simp only [jent, List.length_append, List.length_cons, List.length_nil]
      omega
  · cases h
/-- What is read of a text. -/
structure Recov (t : Bs) (out : List Bs) (n : Nat) : Prop where
  le : n ≤ t.length
  eq : t.take n = jour 0 out
  nl : ∀ l ∈ out, nlFree l
  max : jstep (jchk 0 out) (t.drop n) = none
theorem jent_ne (c : Nat) (l : Bs) : jent c l ≠ [] := by simp [jent]
theorem Recov.pre {t : Bs} {out : List Bs} {n : Nat} (r : Recov t out n) {ls : List Bs} (hls : ∀ l ∈ ls, nlFree l) {rest : Bs} (ht : t = jour 0 ls ++ rest) : ls <+: out := by
  have ht2 : t = jour 0 out ++ t.drop n := by rw [← r.eq, List.take_append_drop]
  have hmax := r.max
  generalize t.drop n = u at *
  have key : ∀ (ls out : List Bs) (c : Nat), (∀ l ∈ ls, nlFree l) → (∀ l ∈ out, nlFree l) → jour c ls ++ rest = jour c out ++ u → jstep (jchk c out) u = none → ls <+: out := by
    intro ls
    induction ls with
    | nil => intro out c _ _ _ _; exact List.nil_prefix
    | cons l ls ih =>
      intro out c h1 h2 h3 h4
      cases out with
      | nil =>
        simp only [jour, List.nil_append, jchk] at h3 h4
        rw [← h3, List.append_assoc, jstep_ent c l _ (h1 l (by simp))] at h4
        cases h4
      | cons m out =>
        have e1 := jstep_ent c l (jour (chkOf c l) ls ++ rest) (h1 l (by simp))
        have e2 := jstep_ent c m (jour (chkOf c m) out ++ u) (h2 m (by simp))
        simp only [jour, List.append_assoc] at h3
        rw [h3, e2] at e1
        simp only [Option.some.injEq, Prod.mk.injEq] at e1
        obtain ⟨rfl, _⟩ := e1
        have h5 := List.append_cancel_left h3
        have := ih out _ (fun x hx => h1 x (by simp [hx])) (fun x hx => h2 x (by simp [hx])) h5 (by simpa [jchk] using h4)
        exact List.prefix_cons_inj _ |>.2 this
  exact key ls out 0 hls r.nl (by rw [← ht, ← ht2]) hmax
/-- The whole lines of a beginning. -/
theorem jour_cut (lines : List Bs) (hl : ∀ l ∈ lines, nlFree l) (c at_ : Nat) : ∃ rest, (jour c lines).take at_ = jour c (lines.take (((jour c lines).take at_).count 10)) ++ rest ∧ (10 : UInt8) ∉ rest ∧ ((jour c lines).take at_).count 10 ≤ lines.length := by
  induction lines generalizing c at_ with
  | nil => exact ⟨[], by simp [jour], by simp, by simp [jour]⟩
  | cons l r ih =>
    have hd10 := decB_no (chkOf c l) 10 rfl
    have hl0 := hl l (by simp)
    have hc : (jent c l).count 10 = 1 := by
      have h1 : (decB (chkOf c l)).count 10 = 0 := List.count_eq_zero.2 hd10
      have h2 : l.count 10 = 0 := List.count_eq_zero.2 hl0
      simp [jent, List.count_append, List.count_cons, h1, h2]
    simp only [jour]
    by_cases h : at_ < (jent c l).length
    · have e : (jent c l ++ jour (chkOf c l) r).take at_ = (jent c l).take at_ := by rw [List.take_append, show at_ - (jent c l).length = 0 by omega]; simp
      have hfree : (10 : UInt8) ∉ (jent c l).take at_ := by
        have e2 : jent c l = (decB (chkOf c l) ++ 32 :: l) ++ [10] := by simp [jent]
        rw [e2] at h ⊢
        rw [List.take_append, show at_ - (decB (chkOf c l) ++ 32 :: l).length = 0 by simp only [List.length_append, List.length_cons, List.length_nil] at h ⊢; omega]
        intro hm
        simp only [List.take_zero, List.append_nil] at hm
        have := List.mem_of_mem_take hm
        simp only [List.mem_append, List.mem_cons] at this
        rcases this with h1 | h1 | h1
        · exact hd10 h1
        · cases h1
        · exact hl0 h1
      rw [e, List.count_eq_zero.2 hfree]
      exact ⟨(jent c l).take at_, by simp [jour], hfree, by simp⟩
    · have e : (jent c l ++ jour (chkOf c l) r).take at_ = jent c l ++ (jour (chkOf c l) r).take (at_ - (jent c l).length) := by rw [List.take_append, List.take_of_length_le (by omega)]
      obtain ⟨rest, h1, h2, h3⟩ := ih (fun x hx => hl x (by simp [hx])) (chkOf c l) (at_ - (jent c l).length)
      rw [e, List.count_append, hc]
      refine ⟨rest, ?_, h2, by simp; omega⟩
      rw [show 1 + (List.take (at_ - (jent c l).length) (jour (chkOf c l) r)).count 10 = (List.take (at_ - (jent c l).length) (jour (chkOf c l) r)).count 10 + 1 by omega, List.take_succ_cons, jour, List.append_assoc, ← h1]
theorem jour_count (c : Nat) (ls : List Bs) (hl : ∀ l ∈ ls, nlFree l) : (jour c ls).count 10 = ls.length := by
  induction ls generalizing c with
  | nil => rfl
  | cons l r ih =>
    have h1 : (decB (chkOf c l)).count 10 = 0 := List.count_eq_zero.2 (decB_no (chkOf c l) 10 rfl)
    have h2 : l.count 10 = 0 := List.count_eq_zero.2 (hl l (by simp))
    have hc : (jent c l).count 10 = 1 := by simp [jent, List.count_append, List.count_cons, h1, h2]
    rw [jour, List.count_append, hc, ih _ fun x hx => hl x (by simp [hx])]
    simp; omega
theorem journal_law1 (lines : List Bs) (hl : ∀ l ∈ lines, nlFree l) (at_ : Nat) (list : List Bs) (n : Nat) (hr : Recov ((jour 0 lines).take at_) list n) :
    list = lines.take (((jour 0 lines).take at_).count 10) ∧ list.length = ((jour 0 lines).take at_).count 10 := by
  obtain ⟨rest, h1, h2, h3⟩ := jour_cut lines hl 0 at_
  generalize hw : ((jour 0 lines).take at_).count 10 = whole at *
  have hlt : ∀ l ∈ lines.take whole, nlFree l := fun l h => hl l (List.mem_of_mem_take h)
  have p1 := hr.pre hlt h1
  have hn : n ≤ at_ := by have := hr.le; simp at this; omega
  have hcnt : list.length ≤ whole := by
    have e := hr.eq
    rw [List.take_take, Nat.min_eq_left hn] at e
    rw [← jour_count 0 list hr.nl, ← e, ← hw]
    have : (jour 0 lines).take at_ = (jour 0 lines).take n ++ ((jour 0 lines).take at_).drop n := by
      conv => lhs; rw [← List.take_append_drop n ((jour 0 lines).take at_)]
      rw [List.take_take, Nat.min_eq_left hn]
    rw [this, List.count_append]; omega
  have hlen : (lines.take whole).length = whole := by simp; omega
  have heq : lines.take whole = list := p1.eq_of_length (by have := p1.length_le; omega)
  exact ⟨heq.symm, by rw [← heq, hlen]⟩
/-- THE LAW. -/
theorem journal_law (lines : List Bs) (hl : ∀ l ∈ lines, nlFree l) (at_ : Nat) (ha : at_ < (jour 0 lines).length) (list : List Bs) (n : Nat) (hr : Recov ((jour 0 lines).take at_) list n) (b : UInt8) (other : List Bs) (m : Nat)
    (hr2 : Recov ((jour 0 lines).take at_ ++ b :: (jour 0 lines).drop (at_ + 1)) other m) :
    list = lines.take (((jour 0 lines).take at_).count 10) ∧ list.length = ((jour 0 lines).take at_).count 10 ∧ jour 0 list = (jour 0 lines).take n ∧ n ≤ at_ ∧ n ≤ m ∧ jour 0 other = ((jour 0 lines).take at_ ++ b :: (jour 0 lines).drop (at_ + 1)).take m := by
  obtain ⟨rest, h1, h2, h3⟩ := jour_cut lines hl 0 at_
  generalize hw : ((jour 0 lines).take at_).count 10 = whole at *
  have hlt : ∀ l ∈ lines.take whole, nlFree l := fun l h => hl l (List.mem_of_mem_take h)
  have p1 := hr.pre hlt h1
  have hn : n ≤ at_ := by have := hr.le; simp at this; omega
  have hcnt : list.length ≤ whole := by
    have e := hr.eq
    rw [List.take_take, Nat.min_eq_left hn] at e
    rw [← jour_count 0 list hr.nl, ← e, ← hw]
    have : (jour 0 lines).take at_ = (jour 0 lines).take n ++ ((jour 0 lines).take at_).drop n := by
      conv => lhs; rw [← List.take_append_drop n ((jour 0 lines).take at_)]
      rw [List.take_take, Nat.min_eq_left hn]
    rw [this, List.count_append]; omega
  have hlen : (lines.take whole).length = whole := by simp; omega
  have heq : lines.take whole = list := p1.eq_of_length (by have := p1.length_le; omega)
  have hj : jour 0 list = (jour 0 lines).take n := by rw [← hr.eq, List.take_take, Nat.min_eq_left hn]
  refine ⟨heq.symm, by rw [← heq, hlen], hj, hn, ?_, hr2.eq.symm⟩
  have p2 : list <+: other := hr2.pre (fun l h => hlt l (by rw [heq]; exact h)) (rest := rest ++ b :: (jour 0 lines).drop (at_ + 1)) (by rw [h1, heq, List.append_assoc])
  obtain ⟨more, rfl⟩ := p2
  have e1 : n = (jour 0 list).length := by rw [hj]; simp; omega
  have e2 : m = (jour 0 (list ++ more)).length := by rw [← hr2.eq]; have := hr2.le; simp at this ⊢; omega
  rw [e2, jour_append, e1]; simp
end Go.Proofs.YtmjalehlcbfljaaDoor

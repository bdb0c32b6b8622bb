/- Digits of natural numbers in a base: values, digit lists, and the laws of adding, subtracting and multiplying digit by digit. -/
import Derived.Tactics2
set_option linter.unusedSectionVars false
set_option linter.defProp false
set_option linter.unusedVariables false
set_option linter.unusedSimpArgs false
set_option linter.unnecessarySimpa false
namespace Go.AM
open Go
/-! ### digits -/
def val (B : Nat) : List Nat → Nat
  | [] => 0
  | d :: r => d + B * val B r
def dig (B : Nat) (l : List Nat) : Prop := ∀ d ∈ l, d < B
/-- The last one is not 0. -/
def trm (l : List Nat) : Prop := ∀ h : l ≠ [], l.getLast h ≠ 0
def dg (B : Nat) (x : Nat) : List Nat := if h : x = 0 ∨ B < 2 then [] else (x % B) :: dg B (x / B)
  termination_by x
  decreasing_by exact Nat.div_lt_self (by omega) (by omega)

theorem val_append (B : Nat) (a b : List Nat) : val B (a ++ b) = val B a + B ^ a.length * val B b := by
  induction a with
  | nil => simp [val]
  | cons d r ih => simp only [List.cons_append, val, ih, List.length_cons, Nat.pow_succ, Nat.mul_add]; rw [← Nat.mul_assoc, Nat.mul_comm B (B ^ r.length)]; omega
theorem val_zeros (B n : Nat) : val B (List.replicate n 0) = 0 := by
  induction n with
  | zero => rfl
  | succ n ih => simp [List.replicate_succ, val, ih]
theorem val_lt {B : Nat} (hB : 0 < B) : ∀ {l : List Nat}, dig B l → val B l < B ^ l.length := by
  intro l
  induction l with
  | nil => intro _; simp [val]
  | cons d r ih =>
    intro h
    have h1 := h d (by simp)
    have h2 := ih fun x hx => h x (by simp [hx])
    simp only [val, List.length_cons, Nat.pow_succ]
    have h3 : B * val B r + B ≤ B * B ^ r.length := by rw [← Nat.mul_succ]; exact Nat.mul_le_mul_left B h2
    rw [Nat.mul_comm (B ^ r.length)]; omega
theorem val_take_succ (B : Nat) (l : List Nat) (i : Nat) (hi : i < l.length) : val B (l.take (i + 1)) = val B (l.take i) + B ^ i * l.getD i 0 := by
  have : l.take (i + 1) = l.take i ++ [l[i]] := by rw [List.take_add_one, List.getElem?_eq_getElem hi]; rfl
  rw [this, val_append]
  simp [val, List.getD_eq_getElem?_getD, hi, Nat.min_eq_left (Nat.le_of_lt hi)]
theorem val_take_add (B : Nat) (l : List Nat) (i : Nat) : val B (l.take (i + 1)) = val B (l.take i) + B ^ i * l.getD i 0 := by
  by_cases hi : i < l.length
  · exact val_take_succ B l i hi
  · have h0 : l.getD i 0 = 0 := by simp [List.getD_eq_getElem?_getD, List.getElem?_eq_none (Nat.le_of_not_lt hi)]
    rw [h0, List.take_of_length_le (by omega), List.take_of_length_le (by omega)]; simp
theorem val_split (B : Nat) (l : List Nat) (i : Nat) (hi : i ≤ l.length) : val B l = val B (l.take i) + B ^ i * val B (l.drop i) := by
  conv => lhs; rw [← List.take_append_drop i l]
  rw [val_append]; simp [Nat.min_eq_left hi]
theorem dg_zero (B : Nat) : dg B 0 = [] := by rw [dg]; simp
theorem dg_pos {B x : Nat} (hB : 2 ≤ B) (hx : 0 < x) : dg B x = (x % B) :: dg B (x / B) := by
  rw [dg]; rw [dif_neg (by omega)]
theorem dg_dig {B : Nat} (hB : 2 ≤ B) (x : Nat) : dig B (dg B x) := by
  induction x using Nat.strongRecOn with
  | _ x ih =>
    rcases Nat.eq_zero_or_pos x with rfl | hx
    · rw [dg_zero]; intro d hd; cases hd
    · rw [dg_pos hB hx]
      intro d hd
      rcases List.mem_cons.1 hd with rfl | hd
      · exact Nat.mod_lt _ (by omega)
      · exact ih _ (Nat.div_lt_self hx hB) d hd
theorem dg_val {B : Nat} (hB : 2 ≤ B) (x : Nat) : val B (dg B x) = x := by
  induction x using Nat.strongRecOn with
  | _ x ih =>
    rcases Nat.eq_zero_or_pos x with rfl | hx
    · rw [dg_zero]; rfl
    · rw [dg_pos hB hx, val, ih _ (Nat.div_lt_self hx hB)]; exact Nat.mod_add_div x B
theorem trm_cons {d : Nat} {r : List Nat} (h : trm (d :: r)) : trm r := by
  intro hr
  have := h (by simp)
  rwa [List.getLast_cons hr] at this
/-- What has digits, and no 0 last, are the digits of its value. -/
theorem dg_of {B : Nat} (hB : 2 ≤ B) : ∀ {l : List Nat}, dig B l → trm l → l = dg B (val B l) := by
  intro l
  induction l with
  | nil => intro _ _; rw [val, dg_zero]
  | cons d r ih =>
    intro h ht
    have h1 := h d (by simp)
    have h2 := ih (fun x hx => h x (by simp [hx])) (trm_cons ht)
    have hpos : 0 < val B (d :: r) := by
      rw [val]
      cases r with
      | nil => have := ht (by simp); simp at this; simp [val]; omega
      | cons e r' =>
        have : 0 < val B (e :: r') := by
          rcases Nat.eq_zero_or_pos (val B (e :: r')) with h0 | h0
          · rw [h0, dg_zero] at h2; cases h2
          · exact h0
        have := Nat.mul_pos (show 0 < B by omega) this
        omega
    rw [dg_pos hB hpos, val]
    have e1 : (d + B * val B r) % B = d := by rw [Nat.add_mul_mod_self_left]; exact Nat.mod_eq_of_lt h1
    have e2 : (d + B * val B r) / B = val B r := by rw [Nat.add_mul_div_left _ _ (by omega), Nat.div_eq_of_lt h1]; omega
    rw [e1, e2, ← h2]
theorem dg_trm {B : Nat} (hB : 2 ≤ B) (x : Nat) : trm (dg B x) := by
  induction x using Nat.strongRecOn with
  | _ x ih =>
    rcases Nat.eq_zero_or_pos x with rfl | hx
    · rw [dg_zero]; intro h; exact (h rfl).elim
    · intro h
      have hd := dg_pos hB hx
      have hq := ih _ (Nat.div_lt_self hx hB)
      by_cases hr : dg B (x / B) = []
      · have hz : x / B = 0 := by rw [← dg_val hB (x / B), hr]; rfl
        have hlt : x < B := by
          rcases Nat.lt_or_ge x B with h | h
          · exact h
          · have := Nat.div_pos h (by omega : 0 < B); omega
        have he : dg B x = [x % B] := by rw [hd, hr]
        simp only [he, List.getLast_singleton, Nat.mod_eq_of_lt hlt]; omega
      · have : (dg B x).getLast h = (dg B (x / B)).getLast hr := by
          have h' : (x % B :: dg B (x / B)) ≠ [] := by simp
          have e1 : (dg B x).getLast h = (x % B :: dg B (x / B)).getLast h' := by congr 1
          rw [e1, List.getLast_cons hr]
        rw [this]; exact hq hr
theorem dg_len {B : Nat} (hB : 2 ≤ B) (x n : Nat) : (dg B x).length ≤ n ↔ x < B ^ n := by
  constructor
  · intro h
    have h1 := val_lt (by omega : 0 < B) (dg_dig hB x)
    rw [dg_val hB] at h1
    exact Nat.lt_of_lt_of_le h1 (Nat.pow_le_pow_right (by omega) h)
  · induction n generalizing x with
    | zero => intro h; have : x = 0 := by simpa using h
              subst this; rw [dg_zero]; simp
    | succ n ih =>
      intro h
      rcases Nat.eq_zero_or_pos x with rfl | hx
      · rw [dg_zero]; simp
      · rw [dg_pos hB hx, List.length_cons]
        have := ih (x / B) (by rw [Nat.pow_succ, Nat.mul_comm] at h; exact Nat.div_lt_of_lt_mul h)
        omega
theorem dg_len_pos {B : Nat} (hB : 2 ≤ B) (x : Nat) : 0 < (dg B x).length ↔ 0 < x := by
  have := dg_len hB x 0
  simp only [Nat.pow_zero] at this
  omega
theorem dg_len_lt {B : Nat} (hB : 2 ≤ B) (x y : Nat) (h : (dg B x).length < (dg B y).length) : x < y := by
  have h1 := (dg_len hB x (dg B x).length).1 (Nat.le_refl _)
  have h2 := mt (dg_len hB y (dg B x).length).2 (by omega)
  omega
theorem dg_mono {B : Nat} (hB : 2 ≤ B) {x y : Nat} (h : x ≤ y) : (dg B x).length ≤ (dg B y).length := by
  rcases Nat.lt_or_ge (dg B y).length (dg B x).length with hh | hh
  · have := dg_len_lt hB y x hh; omega
  · exact hh
/-- The lists without the zeros at the end. -/
def trimL (l : List Nat) : List Nat := (l.reverse.dropWhile (· == 0)).reverse
theorem trim_step {l : List Nat} {n : Nat} (hn : n < l.length) (h0 : ∀ j, n < j → j < l.length → l.getD j 0 = 0) (hz : l.getD n 0 = 0) : ∀ j, n ≤ j → j < l.length → l.getD j 0 = 0 := by
  intro j h1 h2
  rcases Nat.eq_or_lt_of_le h1 with rfl | h
  · exact hz
  · exact h0 j h h2
/-- The first n digits are all, if the others are 0. -/
theorem val_take_zeros (B : Nat) (l : List Nat) (n : Nat) (hn : n ≤ l.length) (h0 : ∀ j, n ≤ j → j < l.length → l.getD j 0 = 0) : val B (l.take n) = val B l := by
  have h1 : l.drop n = List.replicate (l.length - n) 0 := by
    apply List.ext_getElem?
    intro j
    rw [List.getElem?_drop, List.getElem?_replicate]
    by_cases hj : j < l.length - n
    · rw [if_pos hj, List.getElem?_eq_getElem (by omega)]
      have := h0 (n + j) (by omega) (by omega)
      rw [List.getD_eq_getElem?_getD, List.getElem?_eq_getElem (by omega)] at this
      simpa using this
    · rw [if_neg hj, List.getElem?_eq_none (by omega)]
  rw [val_split B l n hn, h1, val_zeros]; simp
theorem trm_take (l : List Nat) (n : Nat) (hn : n ≤ l.length) (h : 0 < n → l.getD (n - 1) 0 ≠ 0) : trm (l.take n) := by
  intro hne
  have hpos : 0 < n := by
    rcases Nat.eq_zero_or_pos n with rfl | h
    · simp at hne
    · exact h
  have := h hpos
  rw [List.getD_eq_getElem?_getD, List.getElem?_eq_getElem (by omega)] at this
  rw [List.getLast_eq_getElem]
  simpa [Nat.min_eq_left hn] using this
theorem dig_take {B : Nat} {l : List Nat} (h : dig B l) (n : Nat) : dig B (l.take n) := fun d hd => h d (List.mem_of_mem_take hd)
theorem dig_getD {B : Nat} {l : List Nat} (h : dig B l) (hB : 0 < B) (i : Nat) : l.getD i 0 < B := by
  rw [List.getD_eq_getElem?_getD]
  by_cases hi : i < l.length
  · rw [List.getElem?_eq_getElem hi]; exact h _ (List.getElem_mem hi)
  · rw [List.getElem?_eq_none (by omega)]; exact hB
/-- The trimmed beginning are the digits. -/
theorem trim_dg {B : Nat} (hB : 2 ≤ B) {l : List Nat} (hd : dig B l) {n : Nat} (hn : n ≤ l.length) (h0 : ∀ j, n ≤ j → j < l.length → l.getD j 0 = 0) (h : 0 < n → l.getD (n - 1) 0 ≠ 0) : l.take n = dg B (val B l) := by
  have := dg_of hB (dig_take hd n) (trm_take l n hn h)
  rwa [val_take_zeros B l n hn h0] at this
/-- Compared from the top. -/
theorem val_lt_of_top {B : Nat} (hB : 2 ≤ B) {a b : List Nat} (hl : a.length = b.length) (ha : dig B a) {i : Nat} (hi : i < a.length) (heq : ∀ j, i < j → j < a.length → a.getD j 0 = b.getD j 0) (hlt : a.getD i 0 < b.getD i 0) : val B a < val B b := by
  have h1 : a.drop (i + 1) = b.drop (i + 1) := by
    apply List.ext_getElem?
    intro j
    rw [List.getElem?_drop, List.getElem?_drop]
    by_cases hj : i + 1 + j < a.length
    · have := heq (i + 1 + j) (by omega) hj
      rw [List.getD_eq_getElem?_getD, List.getD_eq_getElem?_getD, List.getElem?_eq_getElem hj, List.getElem?_eq_getElem (by omega)] at this
      rw [List.getElem?_eq_getElem hj, List.getElem?_eq_getElem (by omega)]
      simpa using this
    · rw [List.getElem?_eq_none (by omega), List.getElem?_eq_none (by omega)]
  rw [val_split B a (i + 1) (by omega), val_split B b (i + 1) (by omega), h1, val_take_add, val_take_add]
  have h2 := val_lt (by omega : 0 < B) (dig_take ha i)
  have h3 : (a.take i).length = i := by simp; omega
  rw [h3] at h2
  have h4 : B ^ i * a.getD i 0 + B ^ i ≤ B ^ i * b.getD i 0 := by rw [← Nat.mul_succ]; exact Nat.mul_le_mul_left _ hlt
  omega
theorem eq_of_getD {a b : List Nat} (hl : a.length = b.length) (h : ∀ j, j < a.length → a.getD j 0 = b.getD j 0) : a = b := by
  apply List.ext_getElem hl
  intro i h1 h2
  have := h i h1
  rw [List.getD_eq_getElem?_getD, List.getD_eq_getElem?_getD, List.getElem?_eq_getElem h1, List.getElem?_eq_getElem h2] at this
  simpa using this
theorem val_set {B : Nat} {l : List Nat} {j : Nat} (hj : j < l.length) (d : Nat) : val B (l.set j d) + B ^ j * l.getD j 0 = val B l + B ^ j * d := by
  induction l generalizing j with
  | nil => simp at hj
  | cons x r ih =>
    cases j with
    | zero => simp [val]; omega
    | succ j =>
      have := ih (j := j) (by simpa using hj)
      simp only [List.set_cons_succ, val, List.getD_cons_succ, Nat.pow_succ]
      have h2 : B * (val B (r.set j d) + B ^ j * r.getD j 0) = B * (val B r + B ^ j * d) := by rw [this]
      rw [Nat.mul_add, Nat.mul_add] at h2
      rw [Nat.mul_comm (B ^ j) B, Nat.mul_assoc, Nat.mul_assoc]
      omega
theorem dig_set {B : Nat} {l : List Nat} (h : dig B l) (j : Nat) {d : Nat} (hd : d < B) : dig B (l.set j d) := by
  intro x hx
  rcases List.mem_or_eq_of_mem_set hx with h' | rfl
  · exact h x h'
  · exact hd
theorem dig_replicate {B : Nat} (hB : 0 < B) (n : Nat) : dig B (List.replicate n 0) := by
  intro x hx
  rw [List.eq_of_mem_replicate hx]; exact hB
theorem getD_set {l : List Nat} {i j d : Nat} : (l.set i d).getD j 0 = if i = j ∧ i < l.length then d else l.getD j 0 := by
  simp only [List.getD_eq_getElem?_getD, List.getElem?_set]
  by_cases h : i = j
  · subst h
    by_cases h2 : i < l.length
    · simp [h2]
    · simp [h2, List.getElem?_eq_none (Nat.le_of_not_lt h2)]
  · simp [h]
theorem val_take_set (B : Nat) {l : List Nat} {i : Nat} (hi : i < l.length) (d : Nat) : val B ((l.set i d).take (i + 1)) = val B (l.take i) + B ^ i * d := by
  rw [val_take_succ B _ i (by simpa using hi), getD_set, if_pos ⟨rfl, hi⟩]
  congr 2
  apply List.ext_getElem?
  intro j
  simp only [List.getElem?_take, List.getElem?_set]
  by_cases h : j < i
  · rw [if_pos h, if_pos h, if_neg (by omega)]
  · rw [if_neg h, if_neg h]
theorem step_digit (B i s : Nat) : B ^ i * (s % B) + B ^ (i + 1) * (s / B) = B ^ i * s := by
  rw [Nat.pow_succ, Nat.mul_assoc, ← Nat.mul_add, Nat.mod_add_div]
theorem step_add {B i o c a b : Nat} (x y : Nat) (h : o + B ^ i * c = a + b) : o + B ^ i * ((c + x + y) % B) + B ^ (i + 1) * ((c + x + y) / B) = (a + B ^ i * x) + (b + B ^ i * y) := by
  have := step_digit B i (c + x + y)
  have e : B ^ i * (c + x + y) = B ^ i * c + B ^ i * x + B ^ i * y := by rw [Nat.mul_add, Nat.mul_add]
  omega
/-- minus: bw: 1 where one is owed. -/
theorem step_sub {B i o w a b : Nat} (x y d w' : Nat) (h : o + b = a + B ^ i * w) (hd : d + y + w = x + B * w') : o + B ^ i * d + (b + B ^ i * y) = (a + B ^ i * x) + B ^ (i + 1) * w' := by
  have e : B ^ i * (d + y + w) = B ^ i * (x + B * w') := by rw [hd]
  rw [Nat.mul_add, Nat.mul_add, Nat.mul_add, ← Nat.mul_assoc] at e
  rw [Nat.pow_succ]
  omega
theorem div_add_lt {B c x y : Nat} (hB : 2 ≤ B) (hc : c ≤ 1) (hx : x < B) (hy : y < B) : (c + x + y) / B ≤ 1 := by
  have : c + x + y < B * 2 := by omega
  have := Nat.div_lt_of_lt_mul this
  omega
/-- times: the inner step. -/
theorem step_mul {B : Nat} {l : List Nat} {j : Nat} (hj : j < l.length) {c M N : Nat} (x y : Nat) (h : val B l + B ^ j * c = M + N) :
    val B (l.set j ((c + l.getD j 0 + x * y) % B)) + B ^ (j + 1) * ((c + l.getD j 0 + x * y) / B) = M + (N + B ^ j * (x * y)) := by
  have h1 := val_set (B := B) hj ((c + l.getD j 0 + x * y) % B)
  have h2 := step_digit B j (c + l.getD j 0 + x * y)
  have e : B ^ j * (c + l.getD j 0 + x * y) = B ^ j * c + B ^ j * l.getD j 0 + B ^ j * (x * y) := by rw [Nat.mul_add, Nat.mul_add]
  omega
theorem mul_carry {B c d x y : Nat} (hc : c < B) (hd : d < B) (hx : x < B) (hy : y < B) : (c + d + x * y) / B < B := by
  apply Nat.div_lt_of_lt_mul
  have h1 : x * y ≤ (B - 1) * (B - 1) := Nat.mul_le_mul (by omega) (by omega)
  obtain ⟨b, rfl⟩ : ∃ b, B = b + 1 := ⟨B - 1, by omega⟩
  simp only [Nat.add_sub_cancel] at h1
  have : (b + 1) * (b + 1) = b * b + 2 * b + 1 := by rw [Nat.add_mul, Nat.mul_add]; omega
  omega
end Go.AM

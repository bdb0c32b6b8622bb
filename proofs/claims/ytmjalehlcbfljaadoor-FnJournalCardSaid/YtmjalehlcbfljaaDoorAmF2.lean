/- A part of the abstract machine's laws: steps, calls and loops over abstract heaps. -/
import Derived.Test.YtmjalehlcbfljaaDoorAmK
import Derived.Orders
set_option linter.unusedSectionVars false
set_option linter.defProp false
set_option linter.unusedVariables false
set_option linter.unusedSimpArgs false
set_option linter.unnecessarySimpa false
namespace Go.AM
open Go
variable [Ground]
section
variable {P : Program}
/-! ### forgetting -/
/-- fr knows no more than fr0. -/
def FLe (fr fr0 : List Value) : Prop := fr.length = fr0.length ∧ ∀ (i : Nat) x y, fr[i]? = some x → fr0[i]? = some y → x = junk ∨ x = y
theorem FLe.nil : FLe [] [] := ⟨rfl, by simp⟩
theorem FLe.same {x : Value} {a b : List Value} (h : FLe a b) : FLe (x :: a) (x :: b) := by
  refine ⟨by simp [h.1], fun i u v hu hv => ?_⟩
  cases i with
  | zero => simp at hu hv; right; rw [← hu, ← hv]
  | succ i => simp at hu hv; exact h.2 i u v hu hv
theorem FLe.junk {y : Value} {a b : List Value} (h : FLe a b) : FLe (AM.junk :: a) (y :: b) := by
  refine ⟨by simp [h.1], fun i u v hu hv => ?_⟩
  cases i with
  | zero => simp at hu; left; exact hu.symm
  | succ i => simp at hu hv; exact h.2 i u v hu hv
theorem FLe.refl (a : List Value) : FLe a a := ⟨rfl, fun i x y h1 h2 => by rw [h1] at h2; cases h2; exact .inr rfl⟩

/-- h knows no more than h0, and may do no more. -/
structure HLe (h h0 : AHeap) : Prop where
  len : h.length = h0.length
  obj : ∀ (k : Nat) o o0, h[k]? = some o → h0[k]? = some o0 → o.elem = o0.elem ∧ (o.w = true → o0.w = true) ∧ (∀ (i : Nat) v, o.cells[i]? = some v → v = junk ∧ i < o0.cells.length ∨ o0.cells[i]? = some v)
theorem HLe.refl (h : AHeap) : HLe h h := ⟨rfl, fun k o o0 h1 h2 => by rw [h1] at h2; cases h2; exact ⟨rfl, id, fun i v hv => .inr hv⟩⟩

theorem HLe.at {h h0 : AHeap} (l : HLe h h0) {k : Nat} {o : AObj} (hk : h[k]? = some o) : ∃ o0, h0[k]? = some o0 := by
  have := (List.getElem?_eq_some_iff.1 hk).1
  rw [l.len] at this
  exact ⟨h0[k], by simp [this]⟩

theorem HLe.hr {h h0 : AHeap} (l : HLe h h0) {ι : Inj} {w : World} (hr : HR P ι h0 w) : HR P ι h w := by
  refine ⟨fun k o lo hk hl => ?_, fun j k oj ok lj lk hne hj hk hw hlv hlj hlk => ?_⟩
  · obtain ⟨o0, h0k⟩ := l.at hk
    obtain ⟨e1, e2, e3⟩ := l.obj k o o0 hk h0k
    have := hr.obj k o0 lo h0k hl
    have hcl : o.cells.length ≤ o0.cells.length := by
      rcases Nat.lt_or_ge o0.cells.length o.cells.length with h | h
      · exfalso
        rcases e3 o0.cells.length o.cells[o0.cells.length] (by simp [h]) with ⟨_, h'⟩ | h'
        · omega
        · simp at h'
      · exact h
    refine ⟨fun hw => ?_, fun i v hv => ?_⟩
    · obtain ⟨a1, a2, cs, a3, a4, a5⟩ := this.own (e2 hw)
      exact ⟨a1, e1 ▸ a2, cs, e1 ▸ a3, by omega, a5⟩
    · rcases e3 i v hv with ⟨rfl, hlt⟩ | h'
      · obtain ⟨v', h1, _⟩ := this.cells i o0.cells[i] (by simp [hlt])
        exact ⟨v', h1, .junk _⟩
      · exact this.cells i v h'
  · obtain ⟨oj0, hj0⟩ := l.at hj
    obtain ⟨ok0, hk0⟩ := l.at hk
    obtain ⟨_, e2, e3⟩ := l.obj j oj oj0 hj hj0
    obtain ⟨_, f2, _⟩ := l.obj k ok ok0 hk hk0
    refine hr.apart j k oj0 ok0 lj lk hne hj0 hk0 (f2 hw) ?_ hlj hlk
    rcases hlv with h | h
    · exact .inl (e2 h)
    · right
      intro e
      cases hc : oj.cells with
      | nil => exact h hc
      | cons x r =>
        rcases e3 0 x (by rw [hc]; rfl) with ⟨_, h'⟩ | h' <;> rw [e] at h' <;> simp at h'

theorem HLe.upd {h h0 h' : AHeap} (l : HLe h h0) {ι ι' : Inj} {w w' : World} (u : Upd ι ι' h h' w w') : Upd ι ι' h0 h' w w' := by
  refine ⟨l.len ▸ u.len, fun k hk => u.out k (by rw [l.len]; exact hk), fun k lo h1 h2 h3 => ?_, fun k o' h1 h2 h3 => ?_, u.size, u.tape, u.os, u.output, fun b hb => ?_⟩
  · rcases u.new k lo (by rw [l.len]; exact h1) h2 h3 with hh | ⟨j, o, m, hj, hw, hm, hb⟩
    · exact .inl hh
    · obtain ⟨o0, hj0⟩ := l.at hj
      exact .inr ⟨j, o0, m, hj0, (l.obj j o o0 hj hj0).2.1 hw, hm, hb⟩
  · obtain ⟨o, hk, hw⟩ := u.wr k o' (by rw [l.len]; exact h1) h2 h3
    obtain ⟨o0, hk0⟩ := l.at hk
    exact ⟨o0, hk0, (l.obj k o o0 hk hk0).2.1 hw⟩
  · rcases u.block b hb with ⟨k, o, lo, hk, hw, hι, hbl⟩ | he
    · obtain ⟨o0, hk0⟩ := l.at hk
      exact .inl ⟨k, o0, lo, hk0, (l.obj k o o0 hk hk0).2.1 hw, hι, hbl⟩
    · exact .inr he

end
end Go.AM

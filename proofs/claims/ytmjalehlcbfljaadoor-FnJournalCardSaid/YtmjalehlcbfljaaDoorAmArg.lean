/- An argument that is a slice of integers, as the abstract machine sees it, and what a call leaves of the world that it came from. -/
import Derived.Test.YtmjalehlcbfljaaDoorAmWk
import Derived.ProofKit
import Derived.ChangeSlices
import Derived.WideShapes
import Derived.Deep.Onto
set_option linter.unusedSectionVars false
set_option linter.defProp false
set_option linter.unusedVariables false
set_option linter.unusedSimpArgs false
set_option linter.unnecessarySimpa false
namespace Go.AM
open Go Go.ChangeShapes Go.WideShapes Go.ChangeAt Go.RowKit
variable [Ground]
theorem shape_lt {W : World} {b : Nat} {x : Option (TypeId × Nat)} (h : W.shape? b = x) (hx : x ≠ none) : b < W.heap.size := by
  rcases Nat.lt_or_ge b W.heap.size with hb | hb
  · exact hb
  · exfalso
    apply hx
    rw [← h]
    have : W.heap[b]? = none := by simp [hb]
    simp [World.shape?, this]
/-- An argument that is a slice of integers, as the abstract machine sees it. -/
theorem arg_ints {H : Type} {enc : TypeId × Value → H} {P : Program} {W : World} {base : Nat} {t e : TypeId} {k : IntKind} {v : Value} {d : DataW H} {p : List MemPlace}
    (ht : P.underlying t = some (.slice e)) (he : P.underlying e = some (.int k)) (hc : P.cellsOf e = 1) (hv : Value.okWide P W .any base t v) (h : DataW.Trod enc P W 0 (fun _ => true) true t v d p) :
    ∃ (va : Nat → Value) (zs : List Int) (l : Option Loc), (∀ n ∈ zs, (Lit.int k n).wf = true) ∧ (∀ m, l = some m → m.block < W.heap.size ∧ m.own = false) ∧
      (∀ (id : Nat) (ι : Inj), ι id = l → VR P ι (va id) v) ∧ (∀ id h, rd h id = some (zs.map (Value.int k)) → Row h (va id) zs.length 1 (zs.map (Value.int k))) ∧
      (∀ m, l = some m → ∀ (i : Nat) n, zs[i]? = some n → W.cell? ⟨m.block, m.off + i, none⟩ = some (.int k n)) ∧ zs.length < 9223372036854775808 := by
  obtain ⟨a, len, cap, rfl⟩ := okWide_slice ht hv
  obtain ⟨fu, hf⟩ := h
  rcases open_ints ht he hc hf with ⟨hcs, hx⟩ | ⟨a', len', cap', zs, hcs, _, hl, hm, hz, hx, hcell, hwz⟩
  · simp [Value.cells] at hcs
    obtain ⟨rfl, rfl, rfl⟩ := hcs
    exact ⟨fun _ => .slice none 0 0, [], none, by simp, by simp, fun _ _ _ => .nilslice, fun _ h _ => Row.nil h 1, by simp, by simp⟩
  · simp [Value.cells] at hcs
    obtain ⟨rfl, rfl, rfl⟩ := hcs
    simp only [if_true] at hz
    obtain ⟨b, o, sp⟩ := a'
    have hv2 := hv
    simp only [Value.okWide, ht, Cell.okWide, Cell.ok, World.has] at hv2
    obtain ⟨_, _, _, hsp, row, cells, hsh, _⟩ := hv2
    subst hsp
    have hb := shape_lt hsh (by simp)
    have hcb : cap < 9223372036854775808 := Nat.lt_of_le_of_lt hm (by decide)
    refine ⟨fun id => .slice (some ⟨id, 0, none⟩) len cap, zs.take len, some ⟨b, o, false, e, 0⟩, fun n hn => hwz n (List.mem_of_mem_take hn), ?_, ?_, ?_, ?_, ?_⟩
    · intro m hm; cases hm; exact ⟨hb, rfl⟩
    · intro id ι hι
      exact .slice id 0 len cap b o cap _ hι rfl (.inl rfl) hl hm (.inr rfl) (fun hbig => absurd hbig (by unfold big; omega))
    · intro id h hr
      have e1 : (zs.take len).length = len := by rw [List.length_take]; omega
      have := Row.new (n := (zs.take len).length) (k := 1) (c := cap) hr (by simp) (by rw [e1]; exact .inr hl)
      rw [e1] at this ⊢
      exact this
    · intro m hm i n hn
      cases hm
      obtain ⟨hi, hg⟩ := List.getElem?_eq_some_iff.1 hn
      rw [List.length_take] at hi
      have := hcell i (by omega)
      rw [show (⟨b, o, none⟩ : Addr).add i = ⟨b, o + i, none⟩ from by simp [Addr.add]] at this
      rw [this, List.getD_eq_getElem?_getD]
      rw [List.getElem?_take, if_pos (by omega)] at hn
      rw [hn]; rfl
    · rw [List.length_take]; omega
/-- A heap of objects that came in, lying where ι says. -/
theorem HR.came {P : Program} {ι : Inj} {h : AHeap} {w : World} (hw : ∀ (k : Nat) (o : AObj), h[k]? = some o → o.w = false) (hc : ∀ (k : Nat) (o : AObj) (l : Loc), h[k]? = some o → ι k = some l → ∀ i v, o.cells[i]? = some v → ∃ v', w.cell? ⟨l.block, l.off + i, none⟩ = some v' ∧ VR P ι v v') : HR P ι h w :=
  ⟨fun k o l hk hl => ⟨(fun hh => by rw [hw k o hk] at hh; cases hh), hc k o l hk hl⟩, fun j k oj ok l m _ _ hk hh => by rw [hw k ok hk] at hh; cases hh⟩
/-- What a call that writes nothing that came in leaves. -/
theorem ACp.calls {P : Program} {f : FuncId} {args : List Value} {h : AHeap} {v : Value} {t : AHeap} {W : World} {ι : Inj} {args' : List Value} (hc : ACp P f args h v t)
    (hg : Ground.lim ≤ W.heap.size ∧ Ground.ok W) (hι : ∀ k l, ι k = some l → k < h.length ∧ l.block < W.heap.size ∧ l.own = false) (ha : VRL P ι args args') (hr : HR P ι h W) :
    Calls P f args'.toArray W fun e W' => ∃ v' ι', e = .returned v' ∧ VR P ι' v v' ∧ W'.os = W.os ∧ W'.output = W.output ∧ ∀ b, b < W.heap.size → W'.heap[b]? = W.heap[b]? := by
  refine (hc.2.2 W.heap.size ι args' W ⟨Nat.le_refl _, fun k l hk => (hι k l hk).2.1, fun k l hk ho => ?_, fun k l hk _ => (hι k l hk).2.1, hg⟩ (fun k h1 h2 => ?_) ha hr.frz).mono ?_
  · rw [(hι k l hk).2.2] at ho; cases ho
  · cases hk : ι k with
    | none => rfl
    | some l => have := (hι k l hk).1; rw [frz_length] at h1; omega
  · rintro e W' ⟨v', ι', he, hv, _, _, hu⟩
    refine ⟨v', ι', he, hv, hu.os, hu.output, fun b hb => ?_⟩
    rcases hu.block b hb with ⟨k, o, l, hk, hw, _⟩ | he
    · rw [frz_get] at hk
      obtain ⟨o0, _, rfl⟩ := Option.map_eq_some_iff.1 hk
      cases hw
    · exact he
theorem kept_of_same {W W' : World} (h1 : W'.os = W.os) (h2 : W'.output = W.output) (h3 : ∀ b, b < W.heap.size → W'.heap[b]? = W.heap[b]?) (may : MemPlace → Prop) : W.keptBut W' may :=
  (World.keptBut_refl W may).congr h1 h2 h3
theorem same_at {W W' : World} (h3 : ∀ b, b < W.heap.size → W'.heap[b]? = W.heap[b]?) (p : MemPlace) (hp : p.block < W.heap.size) : W.sameAt W' p := by
  cases p <;> simp only [MemPlace.block] at hp <;> simp [World.sameAt, World.cell?, h3 _ hp]
theorem wrap_u32m (e : Int) : IntKind.u32.wrap e = e % 4294967296 := rfl
end Go.AM

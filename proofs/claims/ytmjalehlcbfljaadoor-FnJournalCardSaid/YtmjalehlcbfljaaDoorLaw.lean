/- The law laws.FnJournal holds: whatever two slices of bytes it gets, it ends, answers true and leaves them as they were. Conditions: the library's tables read as the program's text lays them (the card ties them). -/
import Derived.Test.YtmjalehlcbfljaaDoorCards
import Derived.Test.YtmjalehlcbfljaaDoorTie
import Derived.WalkKit
import Derived.ProofKit
import Derived.OpenShut
import Derived.Deep.DeepHandedRow
import Derived.Lib.LaidTab
import Derived.Stop.LaidErr
import Derived.MakeChecks
import Derived.WideKeyArgs
import Derived.Test.YtmjalehlcbfljaaDoorTop
import Derived.Test.YtmjalehlcbfljaaDoorAmArg
set_option linter.unusedSectionVars false
set_option linter.defProp false
set_option linter.unusedVariables false
set_option linter.unusedSimpArgs false
set_option linter.unnecessarySimpa false
namespace Go.Proofs.YtmjalehlcbfljaaDoor.fnJournal
open Go Go.AM Go.ChangeShapes Go.WideShapes Go.ChangeAt Go.RowKit

theorem own : ownKnob Tryd.prog.godebug = none := by kernel_rfl
theorem laidOut : laidOutB Tryd.prog = true := by kernel_rfl
theorem gTab : Tryd.prog.globalNamed "internal/strconv.uint64pow10" = some 0 := by kernel_rfl
theorem gTabType : (Tryd.prog.globals[0]?).map (·.type) = some 92 := by kernel_rfl
theorem cells92 : Tryd.prog.cellsOf 92 = 20 := by kernel_rfl
theorem cells56 : Tryd.prog.cellsOf 56 = 1 := by kernel_rfl
theorem cells5 : Tryd.prog.cellsOf 5 = 1 := by kernel_rfl
theorem table {W : World} (h : laidMetH Tryd.prog Rows.fnJournalRow.laid W) : Lib.TabIs Tryd.prog W "internal/strconv.uint64pow10" .u64 Lib.pow10Tab := by
  rw [Go.MakeChecks.laidMetH_plain _ _ _ (by kernel_rfl)] at h
  exact Lib.tabIs_of_head (rest := []) gTab gTabType Tryd.underlying92 Tryd.underlying56 cells56 cells92 h.tail.tail
theorem bytes_of (zs : List Int) (h : ∀ n ∈ zs, (Lit.int .u8 n).wf = true) : (zs.map fun z => UInt8.ofNat z.toNat).map byteV = zs.map (Value.int .u8) := by
  rw [List.map_map]
  apply List.map_congr_left
  intro n hn
  have := bounds_u8 (h n hn)
  simp only [Function.comp, byteV]
  congr 1
  have : (UInt8.ofNat n.toNat).toNat = n.toNat := by simp; omega
  rw [this]
  omega

theorem contract (H : Type) (enc : TypeId × Value → H) (W : World) (base : Nat) (args : Array Value) (ds gs : List (DataW H)) (before : List MemPlace)
    (hval : ∀ (j : Nat) t v, Tryd.f3.params[j]? = some t → args[j]? = some v → Value.okWide Tryd.prog W .any base t v)
    (hW : DataW.Whole enc Tryd.prog Tryd.f3.params.toList Rows.fnJournalSpec.vars false W args.toList ds gs before) (hL : laidMetH Tryd.prog Rows.fnJournalRow.laid W) :
    Calls Tryd.prog 3 args W fun e W' => ∃ v, e = .returned v ∧ Rows.fnJournalSpec.post enc Tryd.prog Tryd.f3 false true false false W args v W' := by
  have hW' := hW
  obtain ⟨p, q, hA0, hV, rfl, hfz, hnd⟩ := hW
  have hA : DataW.TrodAll enc Tryd.prog W 0 (fun _ => true) true Tryd.f3.params.toList args.toList ds p := hA0
  rw [Tryd.params3] at hA hval
  obtain ⟨v0, v1, d0, d1, p0, p1, rfl, rfl, rfl, h0, h1⟩ := trodAll_two hA
  obtain ⟨rfl, rfl⟩ := trodVars_none hV
  obtain ⟨va, za, la, wa, ma, ra, oa, ca, na⟩ := arg_ints Tryd.underlying22 Tryd.underlying5 cells5 (hval 0 22 v0 rfl rfl) h0
  obtain ⟨vb, zb, lb, wb, mb, rb, ob, cb, nb⟩ := arg_ints Tryd.underlying22 Tryd.underlying5 cells5 (hval 1 22 v1 rfl rfl) h1
  clear hA0 hA
  simp only [List.append_nil] at hW'
  have hlt : ∀ x ∈ p0 ++ p1, x.block < W.heap.size := fun x hx => by simpa using hW'.lt x hx
  have tab := table hL
  obtain ⟨h, hh⟩ : ∃ h : AHeap, h = [⟨za.map (Value.int .u8), 5, false⟩, ⟨zb.map (Value.int .u8), 5, false⟩] := ⟨_, rfl⟩
  obtain ⟨ι, hι⟩ : ∃ ι : Inj, ι = fun k => if k = 0 then la else if k = 1 then lb else none := ⟨_, rfl⟩
  have ea := bytes_of za wa
  have eb := bytes_of zb wb
  have Ra := oa 0 h (by rw [hh]; rfl)
  have Rb := ob 1 h (by rw [hh]; rfl)
  rw [← ea] at Ra
  rw [← eb] at Rb
  obtain ⟨v, t, hc, hv⟩ := journal_top h (va 0) (vb 1) (za.map fun z => UInt8.ofNat z.toNat) (zb.map fun z => UInt8.ofNat z.toNat) (by simpa using Ra) (by simpa using Rb) (by simpa using na) (by simpa using nb)
  have key : Calls Tryd.prog 3 [v0, v1].toArray W fun e W' => ∃ v' ι', e = .returned v' ∧ VR Tryd.prog ι' v v' ∧ W'.os = W.os ∧ W'.output = W.output ∧ ∀ b, b < W.heap.size → W'.heap[b]? = W.heap[b]? := by
    refine hc.calls (ι := ι) ⟨?_, tab⟩ ?_ (.cons (ra 0 ι (by rw [hι]; rfl)) (.cons (rb 1 ι (by rw [hι]; rfl)) (.nil _))) (.came ?_ ?_)
    · have : W.heap[0]? ≠ none := by
        intro hn
        have ht := tab
        unfold Lib.TabIs World.var? at ht
        rw [gTab] at ht
        simp [hn] at ht
      show 1 ≤ W.heap.size
      rcases Nat.lt_or_ge 0 W.heap.size with h | h
      · exact h
      · exact absurd (by simp only [Array.getElem?_eq_none_iff]; omega) this
    · intro k l hk
      replace hk : (if k = 0 then la else if k = 1 then lb else none) = some l := by rw [hι] at hk; exact hk
      have e : h.length = 2 := by rw [hh]; rfl
      split at hk
      · exact ⟨by omega, ma l hk⟩
      · split at hk
        · exact ⟨by omega, mb l hk⟩
        · cases hk
    · intro k o hk
      rw [hh] at hk
      rcases k with _ | _ | k <;> simp at hk <;> rw [← hk]
    · intro k o l hk hl i x hx
      rw [hh] at hk
      rw [hι] at hl
      rcases k with _ | _ | k <;> simp at hk hl
      · subst hk
        simp only [List.getElem?_map, Option.map_eq_some_iff] at hx
        obtain ⟨n, hn, rfl⟩ := hx
        exact ⟨_, ca l hl i n hn, .int _ _⟩
      · subst hk
        simp only [List.getElem?_map, Option.map_eq_some_iff] at hx
        obtain ⟨n, hn, rfl⟩ := hx
        exact ⟨_, cb l hl i n hn, .int _ _⟩
  refine key.mono fun e W' ⟨v', ι', he, hvr, hos, hou, hb⟩ => ?_
  subst hv
  cases hvr
  have hs := same_at hb
  have A0 := WideElems.Trod_stays laidOut (by kernel_rfl) (of_decide_eq_true (by kernel_rfl)) (sp' := fun b => decide (b < W.heap.size)) h0 (fun x hx => hs x (hlt x (List.mem_append_left _ hx))) (fun x hx => by simpa using hlt x (List.mem_append_left _ hx))
  have A1 := WideElems.Trod_stays laidOut (by kernel_rfl) (of_decide_eq_true (by kernel_rfl)) (sp' := fun b => decide (b < W.heap.size)) h1 (fun x hx => hs x (hlt x (List.mem_append_right _ hx))) (fun x hx => by simpa using hlt x (List.mem_append_right _ hx))
  exact ⟨_, he, _, _, _, [], p0 ++ p1, [], hW', trodAll_mk1 ⟨1, by simp [DataW.trod, Value.cells, Tryd.underlying4]⟩, trodAll_mk2 A0 A1, rfl, kept_of_same hos hou hb _, fun h => by cases h⟩

def tabCells (d : DataW Unit) : Array Value := match d with
  | .agg l => (l.map fun x => match x with
    | .lit (.int k n) => Value.int k n
    | _ => .nilFunc).toArray
  | _ => #[]
def putTab (g : Nat) (d : DataW Unit) (h : Array Obj) : Array Obj := h.modify g fun
  | .cells _ t frozen => .cells (tabCells d) t frozen
  | o => o
noncomputable def laidWorld (os : Os) : World :=
  { World.holding Tryd.prog os ⟨#[], #[], []⟩ with heap := putTab 3 Rows.laid_math_bits_deBruijn64tab (putTab 2 Rows.laid_math_bits_deBruijn32tab (putTab 0 Rows.laid_internal_strconv_uint64pow10 (World.holding Tryd.prog os ⟨#[], #[], []⟩).heap)) }
theorem laid_met (os : Os) : laidMet Tryd.prog Rows.fnJournalRow.laid ((laidWorld os).forCall (fun _ _ => 0) ⟨#[], #[.slice none 0 0, .slice none 0 0], []⟩).memory :=
  laidMet_of_run' 8 (by kernel_rfl) (by kernel_rfl)
theorem reads (os : Os) {H : Type} (enc : TypeId × Value → H) : ∃ places, DataW.whole enc Tryd.prog ((laidWorld os).forCall (fun _ _ => 0) ⟨#[], #[.slice none 0 0, .slice none 0 0], []⟩).memory Tryd.f3.params.toList Rows.fnJournalSpec.vars false #[Value.slice none 0 0, .slice none 0 0].toList 8 = some ([.nil, .nil], [], places) :=
  ⟨[], by kernel_rfl⟩

set_option maxRecDepth 100000 in
theorem lifted (os : Os) (started : os.Started) (H : Type) (enc : TypeId × Value → H) (F : Stop.Interp) :
    ReturnsInHanded {} Tryd.checked os 3 .any ((OpenSpec.ofChange Rows.fnJournalSpec).preRow enc Tryd.prog Tryd.f3 Rows.fnJournalRow.domain false Rows.fnJournalRow.laid) (((OpenSpec.ofChange Rows.fnJournalSpec).at F).post enc Tryd.prog Tryd.f3 false true false false) := by
  obtain ⟨places, hx⟩ := reads os enc
  refine returnsInHanded_of_row (C := Tryd.checked) (s := OpenSpec.ofChange Rows.fnJournalSpec) own started (by kernel_rfl) Tryd.func3
    (witness_row_at (enc := enc) (C := Tryd.checked) false (laidWorld os) #[.slice none 0 0, .slice none 0 0] rfl (by kernel_rfl) (by kernel_rfl) (by kernel_rfl)
      (OpenSpec.preRow_of_cond 8 hx (by kernel_rfl) (fun k hk => by cases hk) (by kernel_rfl) (laid_met os))) ?_
  intro W base args ds gs before hval hW _ _ _ hL _ _
  exact contract H enc W base args ds gs before hval hW hL

theorem said : Rows.FnJournalSaid :=
  OpenClaim.holds_of_cond 3 Tryd.f3 rfl rfl rfl rfl rfl rfl rfl ⟨rfl, rfl, rfl, rfl, rfl⟩ rfl rfl rfl rfl rfl (by kernel_rfl) Tryd.func3 (by kernel_rfl)
    (of_decide_eq_true (by kernel_rfl)) (by unfold Func.isWrapper; first | (rw [if_pos (by decide +kernel)]; kernel_rfl) | (rw [if_neg (by decide +kernel)]; exact ⟨rfl, rfl⟩))
    (fun os started H enc _ F => by rw [OpenClaim.pre_eq_preRow]; exact lifted os started H enc F)

theorem plain (f : FuncId) (fn : Func) (hf : Tryd.pinned.checked.prog.funcNamed "loop.example/g01121/laws.FnJournal" = some f) (hfn : Tryd.pinned.checked.prog.funcs[f]? = some fn) :
    false = Tryd.pinned.checked.prog.looks [] ∧ ∀ (j : Nat) t, fn.params[j]? = some t → Tryd.pinned.checked.prog.wantsStandIn t = false := by
  obtain rfl : f = 3 := Option.some.inj ((show Tryd.prog.funcNamed "loop.example/g01121/laws.FnJournal" = some 3 by kernel_rfl).symm.trans hf) |>.symm
  obtain rfl : fn = Tryd.f3 := (Option.some.inj (Tryd.func3.symm.trans hfn)).symm
  refine ⟨by kernel_rfl, fun j t ht => ?_⟩
  rw [Tryd.params3] at ht
  obtain rfl : t = 22 := by simpa using Array.mem_of_getElem? ht
  exact (show Tryd.prog.wantsStandIn 22 = false by kernel_rfl)

theorem card : Rows.FnJournalCardSaid :=
  Claim7.holds_tied_plain_at .later [] _ _ _ _ said (fun _ h => by cases h) (by kernel_rfl) (fun _ h => by cases h) fnJournal_row_tie rfl ⟨rfl, rfl⟩ (by kernel_rfl) rfl plain (by kernel_rfl)
end Go.Proofs.YtmjalehlcbfljaaDoor.fnJournal

/- The journal of lines is the text that the law speaks of. -/
import Derived.Test.YtmjalehlcbfljaaDoorBld
import Derived.Test.YtmjalehlcbfljaaDoorSrc
set_option linter.unusedSectionVars false
set_option linter.defProp false
set_option linter.unusedVariables false
set_option linter.unusedSimpArgs false
set_option linter.unnecessarySimpa false
namespace Go.Proofs.YtmjalehlcbfljaaDoor
open Go Go.AM
set_option maxRecDepth 8000
set_option maxHeartbeats 4000000
abbrev tB : TypeId := 43
theorem vrl_one {P : Program} {ι : Inj} {x : Value} {a : List Value} (h : VRL P ι [x] a) : ∃ y, a = [y] ∧ VR P ι x y := by
  have hl := h.1
  match a, hl with
  | [y], _ => exact ⟨y, rfl, h.2 0 x y rfl rfl⟩
theorem cc_ok (h : AHeap) (p : Nat) (a bv : Value) (ho : h[p]? = some ⟨[a, bv], tB, true⟩) (ha : a = .pointer none ∨ a = ptr p) : AC Tryd.prog 29 [ptr p] h (.tuple #[]) (h.set p ⟨[ptr p, bv], tB, true⟩) := by
  refine AC.ofPost (by kernel_rfl) (by simp) fun base ι args' w hi hf hargs hr => ?_
  obtain ⟨y, rfl, hy⟩ := vrl_one hargs
  unfold ptr at hy
  cases hy with
  | ptr id off b o l hl hb ho2 =>
    have hok := hr.obj p _ l ho hl
    obtain ⟨hown, helem, cs, hblk, hcs, hcsz⟩ := hok.own rfl
    have hoff := (hi.own p l hl hown).2
    subst hb; subst ho2
    rw [hoff, Nat.zero_add]
    simp only [List.length_cons, List.length_nil] at hcs
    obtain ⟨v0, hv0, hv1⟩ := hok.cells 0 a rfl
    rw [hoff] at hv0
    have hset : Post Tryd.prog base [p] ι ι h (h.set p ⟨[ptr p, bv], tB, true⟩) w (w.setCell ⟨l.block, 0, none⟩ (.pointer (some ⟨l.block, 0, none⟩))) :=
      Post.set1 (off := 0) (v := ptr p) hi ho rfl hl hok (by simp) (.ptr p 0 l.block 0 l hl rfl (by rw [hoff])) rfl
    rcases ha with rfl | rfl
    · cases hv1
      refine (copyCheck_fresh l.block cs.size w (by omega) hv0 (by simp [World.shape?, hblk]) (by simp [World.frozen?, hblk])).mono ?_
      rintro e w' ⟨rfl, rfl⟩
      exact ⟨_, ι, [p], rfl, .tuple _ _ rfl (by simp), hset⟩
    · unfold ptr at hv1
      cases hv1 with
      | ptr id off b o l2 hl2 hb ho2 =>
        rw [hl] at hl2; cases hl2
        subst hb; subst ho2
        rw [hoff] at hv0
        refine (copyCheck_used l.block w hv0).mono ?_
        rintro e w' ⟨rfl, rfl⟩
        refine ⟨_, ι, [], rfl, .tuple _ _ rfl (by simp), ?_⟩
        have e1 : h.set p ⟨[ptr p, bv], tB, true⟩ = h := by
          apply List.ext_getElem?
          intro k
          by_cases hk : p = k
          · subst hk; rw [List.getElem?_set_self (at_lt ho), ho]
          · rw [List.getElem?_set_ne hk]
        unfold ptr at e1
        rw [show (h.set p ⟨[ptr p, bv], tB, true⟩) = h from e1]
        exact Post.refl hi
theorem str_some (h : AHeap) (p id : Nat) (a : Value) (l : Bs) (hl0 : l ≠ []) (ho : h[p]? = some ⟨[a, .slice (some ⟨id, 0, none⟩) l.length big], tB, true⟩) (hid : h[id]? = some ⟨l.map byteV, 5, true⟩) (hmax : l.length < 4611686018427387904) :
    AC Tryd.prog 19 [ptr p] h (str l) (h.set id dead) := by
  refine AC.ofPost (by kernel_rfl) (by simp) fun base ι args' w hi hf hargs hr => ?_
  obtain ⟨y, rfl, hy⟩ := vrl_one hargs
  unfold ptr at hy
  cases hy with
  | ptr _ off b o lc hl hb ho2 =>
    have hok := hr.obj p _ lc ho hl
    obtain ⟨hown, helem, cs, hblk, hcs, hcsz⟩ := hok.own rfl
    have hoff := (hi.own p lc hl hown).2
    subst hb; subst ho2
    rw [hoff, Nat.zero_add]
    obtain ⟨v1, hv0, hv1⟩ := hok.cells 1 _ rfl
    rw [hoff, Nat.zero_add] at hv0
    obtain ⟨lg, o, c', hlg, rfl, ho3, hn, hm, _, _⟩ := hv1.slice_inv
    have hok2 := hr.obj id _ lg hid hlg
    obtain ⟨hown2, helem2, cur, hblk2, hcs2, hcsz2⟩ := hok2.own rfl
    have hoff2 := (hi.own id lg hlg hown2).2
    have hlpos : 0 < l.length := List.length_pos_iff.2 hl0
    have hoo : o = 0 := by
      rcases ho3 with h | ⟨h, _⟩
      · omega
      · omega
    subst hoo
    simp only [List.length_map] at hcs2
    refine (bstring_some lc.block lg.block l.length c' cur l w hl0 rfl hv0 hblk2 hn hm hcs2 ?_).mono ?_
    · intro j x hx
      obtain ⟨v', h3, h4⟩ := hok2.cells j (byteV x) (by simp [hx])
      rw [hoff2, Nat.zero_add] at h3
      have : v' = byteV x := h4.plain_eq rfl
      rw [this] at h3
      simpa [World.cell?, hblk2, byteV] using h3
    · rintro e w' ⟨rfl, rfl⟩
      refine ⟨_, ι, [id], rfl, .string _, Post.die hi hid rfl hlg hown2 ?_ ?_ ?_⟩
      · rw [freeze_size]; rfl
      · intro b hb; rw [freeze_block _ _ _ _ hb]; rfl
      · have := freeze_rest w.drew ⟨lg.block, 0, none⟩ l.length; exact this
theorem str_nil (h : AHeap) (p : Nat) (a : Value) (ho : h[p]? = some ⟨[a, .slice none 0 0], tB, true⟩) : AC Tryd.prog 19 [ptr p] h (str []) h := by
  refine AC.grew (by kernel_rfl) rfl fun base ι args' w hi hargs hr => ?_
  obtain ⟨y, rfl, hy⟩ := vrl_one hargs
  unfold ptr at hy
  cases hy with
  | ptr _ off b o lc hl hb ho2 =>
    have hok := hr.obj p _ lc ho hl
    obtain ⟨hown, helem, cs, hblk, hcs, hcsz⟩ := hok.own rfl
    have hoff := (hi.own p lc hl hown).2
    subst hb; subst ho2
    rw [hoff, Nat.zero_add]
    obtain ⟨v1, hv0, hv1⟩ := hok.cells 1 _ rfl
    rw [hoff, Nat.zero_add] at hv0
    cases hv1
    refine (bstring_nil lc.block w hv0).mono ?_
    rintro e w' ⟨rfl, rfl⟩
    exact ⟨rfl, ⟨rfl, rfl, rfl, Nat.le_refl _, fun _ _ => rfl⟩⟩
end Go.Proofs.YtmjalehlcbfljaaDoor

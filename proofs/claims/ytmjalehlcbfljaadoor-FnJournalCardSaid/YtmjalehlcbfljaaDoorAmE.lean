/- A part of the abstract machine's laws: steps, calls and loops over abstract heaps. -/
import Derived.Test.YtmjalehlcbfljaaDoorAmD
set_option linter.unusedSectionVars false
set_option linter.defProp false
set_option linter.unusedVariables false
set_option linter.unusedSimpArgs false
set_option linter.unnecessarySimpa false
namespace Go.AM
open Go
variable [Ground]

/-! ### cuts -/
section
variable {P : Program} {ι : Inj} {base : Nat}

theorem add_eq (b o n : Nat) : (⟨b, o, none⟩ : Addr).add n = ⟨b, o + n, none⟩ := by
  unfold Addr.add; split
  · rename_i e; simp [e]
  · rfl

theorem aSlice_run {t : TypeId} {x v x' : Value} {lo hi mx lo' hi' mx' : Option Value} {w : World} (ha : aSlice P t x lo hi mx = some v) (hx : VR P ι x x')
    (hlo : ∀ y, lo = some y → ∃ y', lo' = some y' ∧ VR P ι y y') (hlo0 : lo = none → lo' = none) (hhi : ∀ y, hi = some y → ∃ y', hi' = some y' ∧ VR P ι y y') (hhi0 : hi = none → hi' = none)
    (hmx : ∀ y, mx = some y → ∃ y', mx' = some y' ∧ VR P ι y y') (hmx0 : mx = none → mx' = none) :
    ∃ v', (Instr.sliceAt t x' lo' hi' mx').run P w = .ok v' w ∧ VR P ι v v' := by
  unfold aSlice at ha
  split at ha
  · rename_i s
    cases hx
    split at ha
    · rename_i hc
      obtain ⟨hs, hm⟩ := hc
      have hu := isStrT_true hs
      have hmn : mx = none := by simpa using hm
      obtain ⟨hb, h1, ha⟩ := Option.bind_eq_some_iff.1 ha
      obtain ⟨lb, h2, rfl⟩ := Option.map_eq_some_iff.1 ha
      refine ⟨.string (s.extract lb hb), ?_, .string _⟩
      have em := hmx0 hmn
      subst em
      rcases aBnd_run h1 hhi hhi0 .sliceAlen w s.size (Nat.le_refl _) with ⟨_, e1, rfl⟩ | ⟨y1, e1, r1, l1, _⟩ <;>
      rcases aBnd_run h2 hlo hlo0 .sliceB w _ (Nat.le_refl _) with ⟨_, e2, rfl⟩ | ⟨y2, e2, r2, l2, _⟩ <;> subst e1 <;> subst e2 <;>
        simp_all [Instr.sliceAt, Instr.slice, run_underlying hu, Instr.sliceBounds]
    · cases ha
  · cases hx
    obtain ⟨e, he, ha⟩ := Option.bind_eq_some_iff.1 ha
    obtain ⟨ti, hti, ha⟩ := Option.bind_eq_some_iff.1 ha
    obtain ⟨inf, d, z, hii, hd, hz, rfl⟩ := tinfo_some hti
    split at ha
    · rename_i hm
      have hu := selem_some he
      have hmn : mx = none := by simpa using hm
      have em := hmx0 hmn
      subst em
      obtain ⟨hb, h1, ha⟩ := Option.bind_eq_some_iff.1 ha
      obtain ⟨lb, h2, rfl⟩ := Option.map_eq_some_iff.1 ha
      have hb0 : hb = 0 := by
        rcases aBnd_run h1 hhi hhi0 .sliceAcap w 0 (Nat.le_refl _) with ⟨_, _, rfl⟩ | ⟨_, _, _, l0, _⟩ <;> omega
      subst hb0
      have lb0 : lb = 0 := by
        rcases aBnd_run h2 hlo hlo0 .sliceB w 0 (Nat.le_refl _) with ⟨_, _, rfl⟩ | ⟨_, _, _, l0, _⟩ <;> omega
      subst lb0
      refine ⟨_, ?_, .nilslice⟩
      rcases aBnd_run h1 hhi hhi0 .sliceAcap w 0 (Nat.le_refl _) with ⟨_, e1, _⟩ | ⟨y1, e1, r1, l1, _⟩ <;>
      rcases aBnd_run h2 hlo hlo0 .sliceB w 0 (Nat.le_refl _) with ⟨_, e2, _⟩ | ⟨y2, e2, r2, l2, _⟩ <;> subst e1 <;> subst e2 <;>
        simp_all [Instr.sliceAt, Instr.slice, run_underlying hu, Instr.sliceBounds, sizeOf, typeInfo]
    · cases ha
  · rename_i id off n c
    obtain ⟨l, o, c', hl, rfl, ho, hn, hm, hc, hs⟩ := hx.slice_inv
    obtain ⟨e, he, ha⟩ := Option.bind_eq_some_iff.1 ha
    obtain ⟨ti, hti, ha⟩ := Option.bind_eq_some_iff.1 ha
    obtain ⟨inf, d, z, hii, hd, hz, rfl⟩ := tinfo_some hti
    have hu := selem_some he
    have fin : ∀ (l0 h0 m0 r c0 : Nat), ((Instr.sliceBounds true n c' lo' hi' mx').run P w = .ok (l0, h0, m0) w) → l0 ≤ h0 → h0 ≤ m0 → m0 ≤ c' → r = h0 - l0 →
        (c0 = big ∨ m0 - l0 = c0) → (c0 = big → c = big) →
        ∃ v', (Instr.sliceAt t (.slice (some ⟨l.block, o, none⟩) n c') lo' hi' mx').run P w = .ok v' w ∧ VR P ι (.slice (some ⟨id, off + l0 * inf.size, none⟩) r c0) v' := by
      intro l0 h0 m0 r c0 hb h1 h2 h3 hr hc0 hbig
      subst hr
      by_cases hml : m0 = l0
      · refine ⟨.slice (some ⟨l.block, o, none⟩) (h0 - l0) (m0 - l0), ?_, .slice _ _ _ _ _ _ _ l hl rfl (.inr ⟨by omega, by omega⟩) (by omega) (by omega) (by rcases hc0 with h | h; exact .inl h; exact .inr h) (fun hb' h0' => ?_)⟩
        · simp [Instr.sliceAt, Instr.slice, run_underlying hu, hb, sizeOf, typeInfo, hii, hml]
        · have := hs (hbig hb') (by omega)
          refine ⟨this.1, ?_⟩
          rw [hml, Nat.sub_self, Nat.zero_mul]; exact Nat.zero_le _
      · refine ⟨.slice (some ⟨l.block, o + l0 * inf.size, none⟩) (h0 - l0) (m0 - l0), ?_, .slice _ _ _ _ _ _ _ l hl rfl ?_ (by omega) (by omega) (by rcases hc0 with h | h; exact .inl h; exact .inr h) (fun hb' h0' => ?_)⟩
        · simp [Instr.sliceAt, Instr.slice, run_underlying hu, hb, sizeOf, typeInfo, hii, hml, add_eq]
        · rcases ho with h | h
          · exact .inl (by rw [h, Nat.add_assoc])
          · omega
        · have := hs (hbig hb') (by omega)
          exact ⟨this.1, Nat.le_trans (Nat.mul_le_mul_right _ (by omega)) this.2⟩
    split at ha
    · rename_i hbig
      split at ha
      · rename_i hmn
        have hmn' : mx = none := by simpa using hmn
        have em := hmx0 hmn'
        subst em
        obtain ⟨hb, h1, ha⟩ := Option.bind_eq_some_iff.1 ha
        obtain ⟨lb, h2, rfl⟩ := Option.map_eq_some_iff.1 ha
        rcases aBnd_run h1 hhi hhi0 .sliceAcap w c' hn with ⟨_, e1, rfl⟩ | ⟨y1, e1, r1, l1, _⟩ <;>
        rcases aBnd_run h2 hlo hlo0 .sliceB w _ (Nat.le_refl _) with ⟨_, e2, rfl⟩ | ⟨y2, e2, r2, l2, _⟩ <;> subst e1 <;> subst e2 <;>
          exact fin _ _ c' _ big (by simp_all [Instr.sliceBounds]) (by omega) (by omega) (Nat.le_refl _) rfl (.inl rfl) (fun _ => hbig)
      · cases ha
    · rename_i hnb
      have hcc : c' = c := by rcases hc with h | h; exact (hnb h).elim; exact h
      subst hcc
      obtain ⟨m, h0, ha⟩ := Option.bind_eq_some_iff.1 ha
      obtain ⟨hb, h1, ha⟩ := Option.bind_eq_some_iff.1 ha
      split at ha
      · cases ha
      · rename_i hno
        obtain ⟨lb, h2, rfl⟩ := Option.map_eq_some_iff.1 ha
        have hmle : m ≤ c' := by
          rcases aBnd_run h0 hmx hmx0 .slice3Acap w c' (Nat.le_refl _) with ⟨_, _, rfl⟩ | ⟨_, _, _, l0, _⟩ <;> omega
        have hble : mx.isNone = true ∨ hi.isSome = true → hb ≤ m := by
          intro hor
          rcases aBnd_run h1 hhi hhi0 .slice3B w m (Nat.le_refl _) with ⟨hin, _, rfl⟩ | ⟨_, _, _, l0, _⟩
          · rcases hor with h | h
            · have : mx = none := by simpa using h
              subst this; simp [aBnd] at h0; omega
            · simp [hin] at h
          · exact l0
        have hle : hb ≤ m := hble (by
          cases mx with
          | none => exact .inl rfl
          | some _ => right; cases hi with
            | none => simp at hno
            | some _ => rfl)
        have hll : lb ≤ hb := by
          rcases aBnd_run h2 hlo hlo0 .slice3C w hb (Nat.le_refl _) with ⟨_, _, rfl⟩ | ⟨_, _, _, l0, _⟩ <;> omega
        have hbounds : (Instr.sliceBounds true n c' lo' hi' mx').run P w = .ok (lb, hb, m) w := by
          cases hmxe : mx with
          | none =>
            have em := hmx0 hmxe
            subst em
            rw [hmxe] at h0
            simp [aBnd] at h0
            subst h0
            rcases aBnd_run h1 hhi hhi0 .sliceAcap w _ (Nat.le_refl _) with ⟨_, e1, rfl⟩ | ⟨y1, e1, r1, l1, _⟩ <;>
            rcases aBnd_run h2 hlo hlo0 .sliceB w _ (Nat.le_refl _) with ⟨_, e2, rfl⟩ | ⟨y2, e2, r2, l2, _⟩ <;> subst e1 <;> subst e2 <;>
              simp_all [Instr.sliceBounds]
          | some my =>
            rcases aBnd_run h0 hmx hmx0 .slice3Acap w c' (Nat.le_refl _) with ⟨e0, _, _⟩ | ⟨y0, e0, r0, l0, _⟩
            · rw [e0] at hmxe; cases hmxe
            · rcases aBnd_run h1 hhi hhi0 .slice3B w m (Nat.le_refl _) with ⟨e1, _, _⟩ | ⟨y1, e1, r1, l1, _⟩
              · simp [e1, hmxe] at hno
              · rcases aBnd_run h2 hlo hlo0 .slice3C w _ (Nat.le_refl _) with ⟨_, e2, rfl⟩ | ⟨y2, e2, r2, l2, _⟩ <;> subst e0 <;> subst e1 <;> subst e2 <;>
                  simp_all [Instr.sliceBounds]
        exact fin lb hb m _ _ hbounds hll hle hmle rfl (.inr rfl) (fun h => by exfalso; have := hm; simp only [maxLen] at this; simp only [big] at h; omega)
  · cases ha
end
end Go.AM

/- A part of the abstract machine's laws: steps, calls and loops over abstract heaps. -/
import Derived.Test.YtmjalehlcbfljaaDoorAmF
import Derived.Deep.AppendSrc
set_option linter.unusedSectionVars false
set_option linter.defProp false
set_option linter.unusedVariables false
set_option linter.unusedSimpArgs false
set_option linter.unnecessarySimpa false
namespace Go.AM
open Go
variable [Ground]

def dead : AObj := ⟨[], 0, false⟩
def aNews (x : Value) (size : Nat) (h : AHeap) : Option (Nat × List Value) :=
  match x with
  | .slice none 0 0 => some (0, [])
  | .slice (some ⟨id, off, none⟩) m _ => (hread h id off (m * size)).map fun cs => (m, cs)
  | _ => none
/-- What append takes out of its second argument. -/
def aSrc (P : Program) (t t' : TypeId) (x : Value) (size : Nat) (h : AHeap) : Option (Nat × List Value) :=
  if t = t' then aNews x size h else match x with
    | .string s => if isStrT P t' = true ∧ size = 1 then some (s.size, byteCells s) else none
    | _ => none
def aAppend (P : Program) (t t' : TypeId) (s x : Value) (h : AHeap) : Option (Value × AHeap) :=
  (selem P t).bind fun e => (tinfo P e).bind fun ti => (aSrc P t t' x ti.size h).bind fun mn =>
    if mn.1 = 0 then (match s with | .slice _ _ _ => some (s, h) | _ => none)
    else if mn.2.all isCell = true ∧ ti.zero.length = ti.size then
      match s with
      | .slice none 0 0 => if mn.1 * ti.bytes ≤ 140737488355328 ∧ mn.1 ≤ 4611686018427387904 then some (.slice (some ⟨h.length, 0, none⟩) mn.1 big, hnew h mn.2 e) else none
      | .slice (some ⟨id, off, none⟩) n c =>
        if (n + mn.1) * ti.bytes ≤ 140737488355328 ∧ n + mn.1 ≤ 4611686018427387904 then
          if c = big then
            (h[id]?).bind fun o => if off = 0 ∧ 0 < n ∧ o.cells.length = n * ti.size ∧ o.w = true ∧ o.elem = e then
              some (.slice (some ⟨h.length, 0, none⟩) (n + mn.1) big, h.set id dead ++ [⟨o.cells ++ mn.2, e, true⟩]) else none
          else if n + mn.1 ≤ c then (hset h id (off + n * ti.size) mn.2).map fun h' => (.slice (some ⟨id, off, none⟩) (n + mn.1) c, h')
          else (hread h id off (n * ti.size)).map fun olds => (.slice (some ⟨h.length, 0, none⟩) (n + mn.1) big, hnew h (olds ++ mn.2) e)
        else none
      | _ => none
    else none
/-- What append writes to. -/
def wAppend (s x : Value) : List Nat :=
  match s, x with
  | .slice (some a) n c, .slice (some _) m _ => if m = 0 then [] else if c = big ∨ n + m ≤ c then [a.block] else []
  | .slice (some a) n c, .string x => if x.size = 0 then [] else if c = big ∨ n + x.size ≤ c then [a.block] else []
  | _, _ => []

section
variable {P : Program} {ι : Inj} {base : Nat}

theorem run_append_in {t tx ty e : TypeId} {i : TypeInfo} (hu : P.underlying t = some (.slice e)) (hi : P.info? e = some i) (b : Nat) (o n c : Nat) {x : Value} {m : Nat} (hn : n + m ≤ c) {w w' : World} {news : List Value}
    (hs : Src P i.size tx x m news w) (hst : (storeCells ⟨b, o + n * i.size, none⟩ news).run P w = .ok () w') :
    (Builtin.append_ #[t, tx] ty #[.slice (some ⟨b, o, none⟩) n c, x]).run P w = .ok (.slice (some ⟨b, o, none⟩) (n + m) c) w' := by
  rcases hs.kind with ⟨e', hk⟩ | hk <;> simp [Builtin.append_, run_underlying hu, run_underlying hk, sizeOf, typeInfo, hi, hs.len, hn, hs.cells, add_eq, hst]
theorem run_append_zero {t tx ty e : TypeId} {i : TypeInfo} (hu : P.underlying t = some (.slice e)) (hi : P.info? e = some i) (b : Option Addr) (n c : Nat) (hn : n ≤ c) {x : Value} {w : World} (hs : Src P i.size tx x 0 [] w) :
    (Builtin.append_ #[t, tx] ty #[.slice b n c, x]).run P w = .ok (.slice b n c) w := by
  rcases hs.kind with ⟨e', hk⟩ | hk <;> cases b <;> simp [Builtin.append_, run_underlying hu, run_underlying hk, sizeOf, typeInfo, hi, hs.len, hn, hs.cells, storeCells]

theorem aNews_run {x x' : Value} {size m : Nat} {news : List Value} {h : AHeap} {w : World} (ha : aNews x size h = some (m, news)) (hx : VR P ι x x')
    (hobj : ∀ k ∈ idOf x, ∀ o l, h[k]? = some o → ι k = some l → ObjOK P ι o l w) :
    (m = 0 ∧ news = [] ∧ ((∃ b c, x' = .slice (some b) 0 c) ∨ x' = .slice none 0 0)) ∨ ∃ b c news', x' = .slice (some b) m c ∧ VRL P ι news news' ∧ news'.length = m * size ∧
      (∀ (j : Nat) v, news'[j]? = some v → w.cell? (b.add j) = some v) ∧ ∃ a c0, x = .slice (some a) m c0 := by
  unfold aNews at ha
  split at ha
  · cases ha; cases hx; exact .inl ⟨rfl, rfl, .inr rfl⟩
  · rename_i id off m' c
    obtain ⟨cs, hcs, ha⟩ := Option.map_eq_some_iff.1 ha
    cases ha
    obtain ⟨l, o, c', hl, rfl, ho, hn, hm, hc, hs⟩ := hx.slice_inv
    rcases ho with ho | ⟨h0, _⟩
    · obtain ⟨cs', h1, h2, h3, h4⟩ := hread_run hcs (l := l) (fun ob hob => hobj id (by simp [idOf]) ob l hob hl)
      subst ho
      exact .inr ⟨_, _, cs', rfl, ‹VRL P ι _ cs'›, ‹cs'.length = _›, ‹∀ (j : Nat) v, cs'[j]? = some v → _›, _, _, rfl⟩
    · subst h0
      refine .inl ⟨rfl, ?_, .inl ⟨_, _, rfl⟩⟩
      unfold hread at hcs
      obtain ⟨ob, _, hcs⟩ := Option.bind_eq_some_iff.1 hcs
      split at hcs
      · cases hcs; simp
      · cases hcs
  · cases ha

theorem VRL.oneCell {a b : List Value} (h : VRL P ι a b) (hc : a.all isCell = true) : ∀ u ∈ b, u.oneCell' = true := by
  intro u hu
  obtain ⟨i, hi, rfl⟩ := List.mem_iff_getElem.1 hu
  have hi' : i < a.length := by rw [h.1]; exact hi
  rw [List.all_eq_true] at hc
  exact ((h.2 i a[i] _ (by simp [hi']) (by simp [hi])).oneCell (hc _ (List.getElem_mem hi'))).1

theorem VRL.bytes (ι : Inj) (s : ByteArray) : VRL P ι (byteCells s) (byteCells s) := by
  refine ⟨rfl, fun i x y hx hy => ?_⟩
  rw [hx] at hy; cases hy
  unfold byteCells at hx
  rw [List.getElem?_map] at hx
  obtain ⟨b, _, rfl⟩ := Option.map_eq_some_iff.1 hx
  exact .int _ _
/-- What the second argument of an append yields. -/
theorem aSrc_run {t t' e : TypeId} {x x' : Value} {size m : Nat} {news : List Value} {h : AHeap} {w : World} (hu : P.underlying t = some (.slice e)) (ha : aSrc P t t' x size h = some (m, news)) (hall : news.all isCell = true) (hx : VR P ι x x')
    (hobj : ∀ k ∈ idOf x, ∀ o l, h[k]? = some o → ι k = some l → ObjOK P ι o l w) :
    ∃ news', Src P size t' x' m news' w ∧ VRL P ι news news' ∧ ((∃ b c0, x = .slice b m c0 ∧ (b = none → m = 0)) ∨ ∃ s, x = .string s ∧ s.size = m) := by
  unfold aSrc at ha
  split at ha
  · rename_i ht
    subst ht
    rcases aNews_run (w := w) ha hx hobj with ⟨rfl, rfl, hz⟩ | ⟨b, c, news', rfl, hv, hl, hc, a, c0, rfl⟩
    · refine ⟨[], ?_, .nil ι, ?_⟩
      · rcases hz with ⟨b, c, rfl⟩ | rfl
        · exact Src.ofSlice w hu b 0 c [] (by simp) (by simp) (by simp)
        · exact Src.ofNil w hu 0
      · left
        rcases hz with ⟨b, c, rfl⟩ | rfl
        · cases hx with
          | junk v => exact absurd ha (by simp [aNews, junk])
          | slice id off n c2 b2 o c' l h1 h2 h3 h4 h5 h6 h7 => exact ⟨_, _, rfl, fun h => by cases h⟩
        · cases hx with
          | junk v => exact absurd ha (by simp [aNews, junk])
          | nilslice => exact ⟨_, _, rfl, fun _ => rfl⟩
    · exact ⟨news', Src.ofSlice w hu b m c news' hl hc (hv.oneCell hall), hv, .inl ⟨_, _, rfl, fun h => by cases h⟩⟩
  · split at ha
    · rename_i s
      split at ha
      · rename_i hc
        obtain ⟨h1, h2⟩ := hc
        cases ha
        cases hx
        have hk : P.underlying t' = some .string := by
          unfold isStrT at h1
          split at h1
          · rename_i hh; exact hh
          · cases h1
        subst h2
        exact ⟨_, Src.ofString w hk s, VRL.bytes ι s, .inr ⟨s, rfl, rfl⟩⟩
      · cases ha
    · cases ha

theorem size_zeroCells' (z : Array Value) (n : Nat) : (Builtin.zeroCells z n).size = n * z.size := by simp [Builtin.zeroCells]

/-- A new object that is longer than what is known of it. -/
theorem Post.newc {h : AHeap} {w : World} (hi : Inv base ι w) (hf : ι h.length = none) {cells cs : List Value} (t : TypeId) (more : Array Value) (hv : VRL P ι cells cs) :
    Post P base [] ι (upd1 ι h.length ⟨w.heap.size, 0, true, t, cs.length + more.size⟩) h (hnew h cells t) w (w.drew.alloc (.cells (cs.toArray ++ more) t)) := by
  have h1 := Post.new' (P := P) hi hf cells t (cs.toArray ++ more) (by simp [hv.1]) (fun ι' hs i v hiv => by
      obtain ⟨v', h1, h2⟩ := hv.get i hiv
      have hlt := (List.getElem?_eq_some_iff.1 h1).1
      exact ⟨v', by rw [Array.getElem?_append_left (by simpa using hlt)]; simpa using h1, h2.mono hs⟩)
  have h2 := h1.drew (w.drawn + 1)
  simp only [Array.size_append, List.size_toArray] at h2
  exact h2

theorem not_live_dead : ¬ dead.live := by simp [dead, AObj.live]

/-- One object dies by it. -/
theorem Post.kill {ι' : Inj} {h : AHeap} {o new : AObj} {w w' : World} {id : Nat} (p : Post P base [] ι ι' h (h ++ [new]) w w') (ho : h[id]? = some o) (hw : o.w = true) : Post P base [id] ι ι' h (h.set id dead ++ [new]) w w' := by
  have hid := (List.getElem?_eq_some_iff.1 ho).1
  have hlen : (h.set id dead ++ [new]).length = (h ++ [new]).length := by simp
  have hge : ∀ k, h.length ≤ k → (h.set id dead ++ [new])[k]? = (h ++ [new])[k]? := by
    intro k hk
    rw [List.getElem?_append_right (by simpa using hk), List.getElem?_append_right hk]; simp
  refine ⟨p.inv, by rw [hlen]; exact p.len, fun k hk => p.out k (by rw [← hlen]; exact hk), fun k l h1 h2 h3 => ?_, fun j k oj ok l m h1 h2 hne hj hk => ?_, p.size, p.tape, p.os, p.output, fun k hk hne => ?_, fun k hk => ?_, fun k o' l hk hl hW => ?_, fun b hb => ?_⟩
  · rcases p.new k l h1 (by rw [← hlen]; exact h2) h3 with hh | ⟨j, m, hj, _⟩
    · exact .inl hh
    · cases hj
  · rw [hge j h1] at hj
    rw [hge k h2] at hk
    exact p.newap j k oj ok l m h1 h2 hne hj hk
  · have : id ≠ k := fun e => hne (by simp [e])
    rw [List.getElem?_append_left (by simpa using hk), List.getElem?_set_ne this]
  · simp at hk; subst hk; exact ⟨o, ho, hw⟩
  · by_cases hk0 : h.length ≤ k
    · rw [hge k hk0] at hk; exact p.obj k o' l hk hl (.inr hk0)
    · have : k = id := by rcases hW with h | h; simpa using h; omega
      subst this
      rw [List.getElem?_append_left (by simpa using hid), List.getElem?_set_self hid] at hk
      cases hk
      exact .dead not_live_dead
  · rcases p.block b hb with ⟨k, l, hk, _⟩ | he
    · cases hk
    · exact .inr he

theorem slice_big (ι : Inj) (h : AHeap) (l : Loc) (n c' : Nat) (ho : l.off = 0) (hn : n ≤ c') (hm : c' ≤ maxLen) (hs : c' * P.cellsOf l.elem ≤ l.size) :
    VR P (upd1 ι h.length l) (.slice (some ⟨h.length, 0, none⟩) n big) (.slice (some ⟨l.block, 0, none⟩) n c') :=
  .slice _ _ _ _ _ _ _ l (upd1_self _ _ _) rfl (.inl (by rw [ho])) hn hm (.inl rfl) (fun _ _ => ⟨ho, hs⟩)

theorem cellsOf_eq {e : TypeId} {i : TypeInfo} (h : P.info? e = some i) : P.cellsOf e = i.size := by simp [Program.cellsOf, h]

theorem aAppend_run {t t' ty : TypeId} {s x v s' x' : Value} {h h' : AHeap} {w : World} (ha : aAppend P t t' s x h = some (v, h')) (hs : VR P ι s s') (hx : VR P ι x x') (hi : Inv base ι w) (hf : Free ι h.length h'.length)
    (hobj : ∀ k ∈ idOf s ++ idOf x, ∀ o l, h[k]? = some o → ι k = some l → ObjOK P ι o l w) :
    ∃ v' w' ι', (Builtin.append_ #[t, t'] ty #[s', x']).run P w = .ok v' w' ∧ VR P ι' v v' ∧ Post P base (wAppend s x) ι ι' h h' w w' := by
  unfold aAppend at ha
  obtain ⟨e, he, h1a⟩ := Option.bind_eq_some_iff.1 ha
  clear ha
  obtain ⟨ti, hti, h2a⟩ := Option.bind_eq_some_iff.1 h1a
  clear h1a
  obtain ⟨i, d, z, hii, hd, hz, rfl⟩ := tinfo_some hti
  obtain ⟨⟨m, news⟩, hnews, ha⟩ := Option.bind_eq_some_iff.1 h2a
  clear h2a
  have hu := selem_some he
  simp only at ha hnews
  by_cases hm0 : m = 0
  · rw [if_pos hm0] at ha
    subst hm0
    have hnil : news = [] := by
      unfold aSrc at hnews
      split at hnews
      · rcases aNews_run (w := w) hnews hx (fun k hk => hobj k (by simp [hk])) with ⟨_, h, _⟩ | ⟨b, c, news', _, h2, h3, _⟩
        · exact h
        · have := h2.1; rw [h3] at this; exact List.length_eq_zero_iff.1 (by omega)
      · split at hnews
        · rename_i sx
          split at hnews
          · simp only [Option.some.injEq, Prod.mk.injEq] at hnews
            obtain ⟨e1, e2⟩ := hnews
            rw [← e2]; exact List.length_eq_zero_iff.1 (by rw [byteCells_length]; exact e1)
          · cases hnews
        · cases hnews
    subst hnil
    obtain ⟨news', hsrc, hvr, hform⟩ := aSrc_run (w := w) hu hnews (by simp) hx (fun k hk => hobj k (by simp [hk]))
    have hn' : news' = [] := List.length_eq_zero_iff.1 (by have := hvr.1; simpa using this.symm)
    subst hn'
    have hW : wAppend s x = [] := by
      unfold wAppend
      rcases hform with ⟨b, c0, rfl, _⟩ | ⟨sx, rfl, hsz⟩
      · split
        · rename_i heq; cases heq; simp
        · rename_i heq; cases heq
        · rfl
      · split
        · rename_i heq; cases heq
        · rename_i heq; cases heq; simp [hsz]
        · rfl
    rw [hW]
    split at ha
    · cases ha
      cases hs with
      | nilslice => exact ⟨_, w, ι, run_append_zero hu hii none 0 0 (Nat.le_refl _) hsrc, .nilslice, .refl hi⟩
      | slice id off n c b o c1 l hl hb ho hn hm hc hs' => exact ⟨_, w, ι, run_append_zero hu hii _ _ _ hn hsrc, .slice id off _ _ b o c1 l hl hb ho hn hm hc hs', .refl hi⟩
    · cases ha
  · rw [if_neg hm0] at ha
    split at ha
    · rename_i hcz
      obtain ⟨hall, hzs⟩ := hcz
      obtain ⟨news', hsrc, hvr, hform⟩ := aSrc_run (w := w) hu hnews hall hx (fun k hk => hobj k (by simp [hk]))
      have hnl := hsrc.newsLen
      have h1 := hvr.oneCell hall
      have hWs : ∀ (a : Addr) (n c : Nat), wAppend (.slice (some a) n c) x = if c = big ∨ n + m ≤ c then [a.block] else [] := by
        intro a n c
        rcases hform with ⟨b, c0, rfl, hb⟩ | ⟨sx, rfl, hsz⟩
        · cases b with
          | none => exact (hm0 (hb rfl)).elim
          | some b => simp only [wAppend, if_neg hm0]
        · simp only [wAppend, hsz, if_neg hm0]
      split at ha
      · -- onto nil
        cases hs
        split at ha
        · rename_i hb
          cases ha
          have hrun := run_append_grow_src (P := P) w t t' ty e i z hu hii hz none 0 0 [] (run_firstCells_none w.drew i.size 0 0 0) x' m news' hsrc (by omega) (by omega) (by rw [Nat.zero_add]; exact growslice_fits (by omega) hb.1)
          simp only [Nat.zero_add, List.nil_append] at hrun
          refine ⟨_, _, _, hrun, ?_, Post.newc hi (free_new hf) e _ hvr⟩
          refine slice_big ι h ⟨w.heap.size, 0, true, e, _⟩ m _ rfl (grownCap_ge w m 0 e) (grownCap_le_maxLen w m 0 e (by simp only [maxLen]; omega)) ?_
          have hge := grownCap_ge w m 0 e
          have hzs' : z.cells.size = i.size := by simpa using hzs
          simp only [cellsOf_eq hii, hnl, size_zeroCells', hzs', ← Nat.add_mul]
          rw [show m + (grownCap w m 0 e - m) = grownCap w m 0 e by omega]
          exact Nat.le_refl _
        · cases ha
      · rename_i id off n c
        obtain ⟨l, o, c1, hl, rfl, ho, hn, hm, hc, hsz⟩ := hs.slice_inv
        split at ha
        · rename_i hb
          obtain ⟨hb1, hb2⟩ := hb
          have hzs' : z.cells.size = i.size := by simpa using hzs
          split at ha
          · -- of an unknown capacity
            rename_i hbig
            obtain ⟨ob, hob, ha⟩ := Option.bind_eq_some_iff.1 ha
            split at ha
            · rename_i hcd
              obtain ⟨hoff, hn0, hlen, hw, hel⟩ := hcd
              cases ha
              subst hoff
              have hWe : wAppend (.slice (some ⟨id, 0, none⟩) n c) x = [id] := by
                simp [hWs, hbig]
              rw [hWe]
              have hoo : o = l.off + 0 := by
                rcases ho with h | h
                · exact h
                · omega
              obtain ⟨hl0, hcap⟩ := hsz hbig rfl
              rw [hl0] at hoo
              simp only [Nat.add_zero] at hoo
              subst hoo
              have hok := hobj id (by simp [idOf]) ob l hob hl
              obtain ⟨hown, helem, cs, hblk, hcs, hcsz⟩ := hok.own hw
              rw [helem, hel, cellsOf_eq hii] at hcap
              have hfree : ι h.length = none := hf _ (Nat.le_refl _) (by simp)
              have hidlt := (List.getElem?_eq_some_iff.1 hob).1
              have holdc : ∀ (j : Nat) (v : Value), ob.cells[j]? = some v → ∃ v', cs[j]? = some v' ∧ VR P ι v v' := by
                intro j v hj
                obtain ⟨v', h3, h4⟩ := hok.cells j v hj
                rw [hl0, Nat.zero_add] at h3
                exact ⟨v', by rw [← h3]; simp [World.cell?, hblk], h4⟩
              have holds : VRL P ι ob.cells (cs.toList.take (n * i.size)) := by
                refine ⟨by simp [hlen]; omega, fun j x y hx hy => ?_⟩
                obtain ⟨v', h3, h4⟩ := holdc j x hx
                rw [List.getElem?_take] at hy
                split at hy
                · have : cs[j]? = some y := by simpa using hy
                  rw [this] at h3; cases h3; exact h4
                · cases hy
              by_cases hroom : n + m ≤ c1
              · -- in place
                have hfit : n * i.size + news'.length ≤ cs.size := by
                  rw [hnl, ← Nat.add_mul, hcsz]; exact Nat.le_trans (Nat.mul_le_mul_right _ hroom) hcap
                have hst := run_storeCells_at P l.block (n * i.size) ob.elem news' 0 cs w hblk (by simpa using hfit) h1
                simp only [Nat.add_zero] at hst
                have hrun := run_append_in (ty := ty) hu hii l.block 0 n c1 hroom hsrc (by rw [Nat.zero_add]; exact hst)
                refine ⟨_, _, upd1 ι h.length ⟨l.block, 0, true, e, l.size⟩, hrun, slice_big ι h ⟨l.block, 0, true, e, l.size⟩ (n + m) c1 rfl hroom hm (by simpa [cellsOf_eq hii] using hcap), ?_⟩
                have hrow : ∀ b, b ≠ l.block → (w.setRow l.block (cs.toList.take (n * i.size) ++ news' ++ cs.toList.drop (n * i.size + news'.length)).toArray).heap[b]? = w.heap[b]? := fun b hb' => setRow_other w l.block b _ hb'
                have hself := setRow_heap w l.block cs (cs.toList.take (n * i.size) ++ news' ++ cs.toList.drop (n * i.size + news'.length)).toArray ob.elem (0, 0) hblk
                have hsize : (w.setRow l.block (cs.toList.take (n * i.size) ++ news' ++ cs.toList.drop (n * i.size + news'.length)).toArray).heap.size = w.heap.size := by simp [World.setRow]
                have hnewlen : (cs.toList.take (n * i.size) ++ news' ++ cs.toList.drop (n * i.size + news'.length)).length = cs.size := by simp; omega
                have hsub : Sub ι (upd1 ι h.length ⟨l.block, 0, true, e, l.size⟩) := by
                  intro k q hk
                  by_cases ek : k = h.length
                  · subst ek; rw [hfree] at hk; cases hk
                  · rw [upd1_ne _ _ _ ek]; exact hk
                have hbb := (hi.own id l hl hown).1
                refine ⟨⟨by rw [hsize]; exact hi.le, fun k q hk => ?_, fun k q hk hq => ?_, fun k q hk hq => ?_, hi.gl' fun b hb => hrow b (by omega)⟩, by simp, fun k hk => ?_, fun k q k1 k2 hk => ?_, fun j k oj ok q r j1 k1 hne hj hk => ?_, by rw [hsize]; exact Nat.le_refl _, rfl, rfl, rfl, fun k hk hne => ?_, fun k hk => ?_, fun k o' q hk hq hW => ?_, fun b hb' => ?_⟩
                · rw [hsize]
                  by_cases ek : k = h.length
                  · subst ek; rw [upd1_self] at hk; cases hk; exact hi.lt id l hl
                  · rw [upd1_ne _ _ _ ek] at hk; exact hi.lt k q hk
                · by_cases ek : k = h.length
                  · subst ek; rw [upd1_self] at hk; cases hk; exact ⟨hbb, rfl⟩
                  · rw [upd1_ne _ _ _ ek] at hk; exact hi.own k q hk hq
                · by_cases ek : k = h.length
                  · subst ek; rw [upd1_self] at hk; cases hk; cases hq
                  · rw [upd1_ne _ _ _ ek] at hk; exact hi.ro k q hk hq
                · simp at hk; rw [upd1_ne _ _ _ (by omega)]
                · simp at k2
                  have ek : k = h.length := by omega
                  subst ek; rw [upd1_self] at hk; cases hk
                  exact .inr ⟨id, l, by simp, hl, rfl, fun o' ho' => by
                    rw [List.getElem?_append_left (by simpa using hidlt), List.getElem?_set_self hidlt] at ho'
                    cases ho'; exact not_live_dead⟩
                · have := (List.getElem?_eq_some_iff.1 hj).1
                  have := (List.getElem?_eq_some_iff.1 hk).1
                  simp at *; omega
                · have : id ≠ k := fun e => hne (by simp [e])
                  rw [List.getElem?_append_left (by simpa using hk), List.getElem?_set_ne this]
                · simp at hk; subst hk; exact ⟨ob, hob, hw⟩
                · by_cases hk0 : h.length ≤ k
                  · have ek : k = h.length := by have := (List.getElem?_eq_some_iff.1 hk).1; simp at this; omega
                    subst ek
                    rw [upd1_self] at hq; cases hq
                    rw [List.getElem?_append_right (by simp)] at hk
                    simp at hk; subst hk
                    have hall2 := (holds.append hvr).mono hsub
                    refine ⟨fun _ => ⟨rfl, rfl, _, by rw [hel] at hself; exact hself, ?_, ?_⟩, fun j v hj => ?_⟩
                    · simp [hlen, hvr.1]; omega
                    · simp only [List.size_toArray]; rw [hnewlen]; exact hcsz
                    · simp only [Nat.zero_add]
                      rw [setRow_cell w l.block cs _ ob.elem (0, 0) hblk]
                      obtain ⟨v', h3, h4⟩ := hall2.get j hj
                      refine ⟨v', ?_, h4⟩
                      have hlt := (List.getElem?_eq_some_iff.1 h3).1
                      simp only [List.getElem?_toArray]
                      rw [List.getElem?_append_left hlt]; exact h3
                  · have : k = id := by rcases hW with h | h; simpa using h; omega
                    subst this
                    rw [List.getElem?_append_left (by simpa using hidlt), List.getElem?_set_self hidlt] at hk
                    cases hk
                    exact .dead not_live_dead
                · by_cases eb : b = l.block
                  · exact .inl ⟨id, l, by simp, hl, eb.symm⟩
                  · exact .inr (hrow b eb)
              · -- it grows
                have holds' : ∀ (j : Nat) v, (cs.toList.take (n * i.size))[j]? = some v → w.cell? ((⟨l.block, 0, none⟩ : Addr).add j) = some v := by
                  intro j v hj
                  rw [List.getElem?_take] at hj
                  split at hj
                  · rw [add_eq, Nat.zero_add]; simp [World.cell?, hblk]; simpa using hj
                  · cases hj
                have hlo : (cs.toList.take (n * i.size)).length = n * i.size := by rw [← holds.1]; exact hlen
                generalize cs.toList.take (n * i.size) = olds' at holds holds' hlo
                have hrun := run_append_grow_src (P := P) w t t' ty e i z hu hii hz (some ⟨l.block, 0, none⟩) n c1 olds' (run_firstCells_some (P := P) w.drew i.size n ⟨l.block, 0, none⟩ n c1 olds' hlo (by simpa using holds')) x' m news' hsrc (by omega) (by omega) (growslice_fits (by omega) hb1)
                have hp := Post.newc (base := base) hi hfree e (Builtin.zeroCells z.cells (grownCap w (n + m) c1 e - (n + m))) (holds.append hvr)
                have hk := Post.kill (by simpa [hnew] using hp) hob hw
                refine ⟨_, _, _, hrun, ?_, by simpa using hk⟩
                have hge := grownCap_ge w (n + m) c1 e
                refine slice_big ι h ⟨w.heap.size, 0, true, e, _⟩ (n + m) _ rfl hge (grownCap_le_maxLen w (n + m) c1 e (by simp only [maxLen]; omega)) ?_
                simp only [cellsOf_eq hii, List.length_append, hlo, hnl, size_zeroCells', hzs', ← Nat.add_mul]
                rw [show n + m + (grownCap w (n + m) c1 e - (n + m)) = grownCap w (n + m) c1 e by omega]
                exact Nat.le_refl _
            · cases ha
          · rename_i hnb
            have hcc : c1 = c := by rcases hc with h | h; exact (hnb h).elim; exact h
            subst hcc
            split at ha
            · -- in place
              rename_i hroom
              obtain ⟨h2, hset, ha⟩ := Option.map_eq_some_iff.1 ha
              cases ha
              have hoo : o = l.off + off := by
                rcases ho with h | h
                · exact h
                · obtain ⟨_, h2⟩ := h
                  rw [h2] at hroom
                  exact (hm0 (Nat.add_eq_zero_iff.1 (Nat.le_zero.1 hroom)).2).elim
              subst hoo
              obtain ⟨w', hst, hp⟩ := hset_run hset hi hl (fun ob hob => hobj id (by simp [idOf]) ob l hob hl) hvr h1
              have hrun := run_append_in (ty := ty) hu hii l.block (l.off + off) n c1 hroom hsrc (by rw [Nat.add_assoc]; exact hst)
              refine ⟨_, _, ι, hrun, .slice _ _ _ _ _ _ _ l hl rfl (.inl rfl) hroom hm (.inr rfl) hsz, ?_⟩
              have hWe : wAppend (.slice (some ⟨id, off, none⟩) n c1) x = [id] := by simp [hWs, hroom]
              rw [hWe]; exact hp
            · -- it grows
              rename_i hroom
              obtain ⟨olds, hold, ha⟩ := Option.map_eq_some_iff.1 ha
              cases ha
              have hWe : wAppend (.slice (some ⟨id, off, none⟩) n c1) x = [] := by simp [hWs, hnb, hroom]
              rw [hWe]
              have main : ∀ (ad : Addr) (olds' : List Value), VRL P ι olds olds' → olds'.length = n * i.size → (∀ (j : Nat) v, olds'[j]? = some v → w.cell? (ad.add j) = some v) →
                  ∃ v' w' ι', (Builtin.append_ #[t, t'] ty #[.slice (some ad) n c1, x']).run P w = .ok v' w' ∧ VR P ι' (.slice (some ⟨h.length, 0, none⟩) (n + m) big) v' ∧ Post P base [] ι ι' h (hnew h (olds ++ news) e) w w' := by
                intro ad olds' hv2 hlo hco
                have hrun := run_append_grow_src (P := P) w t t' ty e i z hu hii hz (some ad) n c1 olds' (run_firstCells_some (P := P) w.drew i.size n ad n c1 olds' hlo (by simpa using hco)) x' m news' hsrc (by omega) (by omega) (growslice_fits (by omega) hb1)
                have hp := Post.newc (base := base) hi (free_new hf) e (Builtin.zeroCells z.cells (grownCap w (n + m) c1 e - (n + m))) (hv2.append hvr)
                refine ⟨_, _, _, hrun, ?_, by simpa using hp⟩
                have hge := grownCap_ge w (n + m) c1 e
                refine slice_big ι h ⟨w.heap.size, 0, true, e, _⟩ (n + m) _ rfl hge (grownCap_le_maxLen w (n + m) c1 e (by simp only [maxLen]; omega)) ?_
                simp only [cellsOf_eq hii, List.length_append, hlo, hnl, size_zeroCells', hzs', ← Nat.add_mul]
                rw [show n + m + (grownCap w (n + m) c1 e - (n + m)) = grownCap w (n + m) c1 e by omega]
                exact Nat.le_refl _
              rcases ho with ho | ⟨hn0, _⟩
              · obtain ⟨cs', k1, k2, k3, k4⟩ := hread_run hold (l := l) (fun ob hob => hobj id (by simp [idOf]) ob l hob hl)
                subst ho
                exact main _ cs' k2 k4 k3
              · subst hn0
                have : olds = [] := by
                  unfold hread at hold
                  obtain ⟨ob, _, hold⟩ := Option.bind_eq_some_iff.1 hold
                  split at hold
                  · cases hold; simp
                  · cases hold
                subst this
                exact main _ [] (VRL.nil ι) (by simp) (by simp)
        · cases ha
      · cases ha
    · cases ha
end
end Go.AM

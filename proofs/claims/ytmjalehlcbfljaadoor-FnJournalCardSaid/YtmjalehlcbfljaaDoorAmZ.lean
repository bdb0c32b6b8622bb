/- A part of the abstract machine's laws: steps, calls and loops over abstract heaps. -/
import Derived.Test.YtmjalehlcbfljaaDoorAmY
set_option linter.unusedSectionVars false
set_option linter.defProp false
set_option linter.unusedVariables false
set_option linter.unusedSimpArgs false
set_option linter.unnecessarySimpa false
namespace Go.AM
open Go
variable [Ground]
/-- What an append of maybe nothing leaves as it was. -/
structure Kept (g t t' : AHeap) (L : Nat) (v v' : Value) (n : Nat) : Prop where
  len : t.length ≤ t'.length
  idr : v' = v ∨ (L + t.length ≤ AM.sid v' ∧ AM.sid v' < L + t'.length)
  at_ : ∀ j, j < t.length → (0 < n → L + j ≠ AM.sid v) → t'[j]? = t[j]?
  row : ∀ {w : Value} {m k : Nat} {xs : List Value}, Row (g ++ t) w m k xs → (0 < n → 0 < m → AM.sid w ≠ AM.sid v) → Row (g ++ t') w m k xs
  own : ∀ {K : Nat} {w : Value} {m k : Nat} {e : TypeId} {xs : List Value}, Own (g ++ t) K w m k e xs → (0 < n → 0 < m → AM.sid w ≠ AM.sid v) → Own (g ++ t') K w m k e xs
section
variable {P : Program} {g t : AHeap} {L n k : Nat} {v : Value} {e : TypeId} {cs : List Value}
theorem Pushed.kept {t' : AHeap} {v' : Value} (p : Pushed g t t' L v v' n) : Kept g t t' L v v' n := ⟨Nat.le_of_lt p.len, .inr p.idr, p.at_, p.row, p.own⟩
theorem Kept.refl : Kept g t t L v v n := ⟨Nat.le_refl _, .inl rfl, fun _ _ _ => rfl, fun r _ => r, fun o _ => o⟩
/-- A slice can be read, even if nothing is in it. -/
def Rdb (h : AHeap) (x : Value) : Prop := x = .slice none 0 0 ∨ ∃ id off n c zs, x = .slice (some ⟨id, off, none⟩) n c ∧ rd h id = some zs ∧ off ≤ zs.length
theorem Rdb.app {h : AHeap} {x : Value} (r : Rdb h x) (t : AHeap) : Rdb (h ++ t) x := by
  rcases r with r | ⟨id, off, n, c, zs, h1, h2, h3⟩
  · exact .inl r
  · exact .inr ⟨id, off, n, c, zs, h1, rd_app_some h2 t, h3⟩
theorem Own.rdb {h : AHeap} (o : Own h L v n k e cs) : Rdb h v := by
  rcases o.sh with ⟨h0, hv | ⟨id, hv, h1, h2⟩⟩ | ⟨hn, id, hv, hL, ho⟩
  · exact .inl hv
  · exact .inr ⟨id, 0, 0, 0, _, hv, rd_of (List.getElem?_eq_getElem h2), by omega⟩
  · exact .inr ⟨id, 0, n, big, _, hv, rd_of ho, by omega⟩
theorem Own.slcRdb {h : AHeap} (o : Own h L v n k e cs) {lo hi : Nat} (h1 : lo ≤ hi) (h2 : hi ≤ n) : Rdb h (slc v lo hi k) := by
  rcases o.sh with ⟨h0, hv | ⟨id, hv, h3, h4⟩⟩ | ⟨hn, id, hv, hL, ho⟩
  · subst hv; exact .inl rfl
  · subst hv
    have : lo = 0 := by omega
    subst this
    exact .inr ⟨id, 0 + 0 * k, hi - 0, _, _, rfl, rd_of (List.getElem?_eq_getElem h4), by omega⟩
  · subst hv
    refine .inr ⟨id, 0 + lo * k, hi - lo, _, _, rfl, rd_of ho, ?_⟩
    have := o.len
    have := Nat.mul_le_mul_right k (show lo ≤ n by omega)
    simp only at *; omega
/-- append of a row, maybe of nothing. -/
theorem Own.addAny (o : Own (g ++ t) L v n k e cs) (hg : g.length = L) {ty : TypeId} {ti : TI} (hs : selem P ty = some e) (hi : tinfo P e = some ti) (hk : ti.size = k) (hz : ti.zero.length = ti.size) {x : Value} {m : Nat} {ys : List Value} (hx : Row (g ++ t) x m k ys) (hr : Rdb (g ++ t) x) (hys : ∀ v ∈ ys, isCell v = true)
    (hb : (n + m) * ti.bytes ≤ 140737488355328) (hc : n + m ≤ 4611686018427387904) :
    ∃ v' t', aAppend P ty ty v x (g ++ t) = some (v', g ++ t') ∧ Own (g ++ t') L v' (n + m) k e (cs ++ ys) ∧ Kept g t t' L v v' n := by
  rcases Nat.eq_zero_or_pos m with h0 | hm
  · subst h0
    have hy : ys = [] := List.length_eq_zero_iff.1 (by have := hx.len; omega)
    subst hy
    refine ⟨v, t, append_none hs hi hk o hx ?_, by simpa using o, Kept.refl⟩
    rcases hr with h | ⟨id, off, n', c, zs, h1, h2, h3⟩
    · exact .inl h
    · have : n' = 0 := by
        rcases hx.shape with ⟨h, _⟩ | ⟨c', h⟩
        · rw [h1] at h; cases h
        · rw [h1] at h; cases h; rfl
      subst this
      exact .inr ⟨id, off, c, h1, zs, h2, h3⟩
  · obtain ⟨v', t', h1, h2, h3⟩ := o.addRow hg hs hi hk hz hx hys hm hb hc
    exact ⟨v', t', h1, h2, h3.kept⟩
end
/-- What lies below L is as it was. -/
structure Abv (L : Nat) (h h' : AHeap) : Prop where
  len : h.length ≤ h'.length
  same : ∀ k, k < L → h'[k]? = h[k]?
theorem Abv.refl (L : Nat) (h : AHeap) : Abv L h h := ⟨Nat.le_refl _, fun _ _ => rfl⟩
theorem Abv.trans {L : Nat} {a b c : AHeap} (x : Abv L a b) (y : Abv L b c) : Abv L a c := ⟨Nat.le_trans x.len y.len, fun k hk => (y.same k hk).trans (x.same k hk)⟩
theorem Abv.app {L : Nat} (h t : AHeap) (hL : L ≤ h.length) : Abv L h (h ++ t) := ⟨by simp, fun k hk => List.getElem?_append_left (by omega)⟩
theorem Abv.set {L : Nat} (h : AHeap) {id : Nat} (o : AObj) (hL : L ≤ id) : Abv L h (h.set id o) := ⟨by simp, fun k hk => List.getElem?_set_ne (by omega)⟩
theorem Abv.split {L : Nat} {g t h' : AHeap} (x : Abv L (g ++ t) h') (hg : g.length = L) : ∃ t', h' = g ++ t' ∧ t.length ≤ t'.length := by
  refine ⟨h'.drop L, ?_, ?_⟩
  · apply List.ext_getElem?
    intro k
    by_cases hk : k < L
    · rw [x.same k hk, List.getElem?_append_left (by omega), List.getElem?_append_left (by omega)]
    · rw [List.getElem?_append_right (by omega), List.getElem?_drop, hg]
      congr 1; omega
  · have := x.len; simp at this ⊢; omega
end Go.AM
namespace Go.AM
open Go
variable [Ground]
theorem Own.mono {h : AHeap} {L L' n k : Nat} {v : Value} {e : TypeId} {cs : List Value} (o : Own h L v n k e cs) (hL : L' ≤ L) : Own h L' v n k e cs := by
  refine ⟨o.len, ?_, o.cells⟩
  rcases o.sh with ⟨h0, hv | ⟨id, hv, h1, h2⟩⟩ | ⟨hn, id, hv, h1, ho⟩
  · exact .inl ⟨h0, .inl hv⟩
  · exact .inl ⟨h0, .inr ⟨id, hv, by omega, h2⟩⟩
  · exact .inr ⟨hn, id, hv, by omega, ho⟩
/-- Its own row lies in the second part: the first part may change. -/
theorem Own.base {h h' t : AHeap} {n k : Nat} {v : Value} {e : TypeId} {cs : List Value} (o : Own (h ++ t) h.length v n k e cs) (hl : h'.length = h.length) : Own (h' ++ t) h.length v n k e cs := by
  refine o.keep (by simp [hl]) fun hn => ?_
  have h1 := (o.sid_lt hn).1
  rw [List.getElem?_append_right (by omega), List.getElem?_append_right (by omega), hl]
theorem Own.slice {h : AHeap} {L n k : Nat} {v : Value} {e : TypeId} {cs : List Value} (o : Own h L v n k e cs) (hn : 0 < n) : ∃ id, v = .slice (some ⟨id, 0, none⟩) n big ∧ L ≤ id ∧ h[id]? = some ⟨cs, e, true⟩ := by
  rcases o.sh with ⟨h0, _⟩ | ⟨_, id, hv, h1, ho⟩
  · omega
  · exact ⟨id, hv, h1, ho⟩
theorem rd_t0 {h t : AHeap} {o : AObj} (ht : t[0]? = some o) : rd (h ++ t) h.length = some o.cells := by
  rw [rd_at0 rfl]; exact rd_of ht
theorem Row.eqL {h : AHeap} {v : Value} {n m k : Nat} {xs : List Value} (r : Row h v n k xs) (e : n = m) : Row h v m k xs := e ▸ r
theorem Own.eqL {h : AHeap} {L : Nat} {v : Value} {n m k : Nat} {e : TypeId} {xs ys : List Value} (r : Own h L v n k e xs) (e1 : n = m) (e2 : xs = ys) : Own h L v m k e ys := e1 ▸ e2 ▸ r
end Go.AM
namespace Go.AM
open Go
variable [Ground]
theorem wAppend_empty (a : Option Addr) (x : Value) : wAppend (.slice a 0 0) x = [] := by
  unfold wAppend
  split
  · rename_i n c b m c' h1
    cases h1
    split
    · rfl
    · rw [if_neg]; intro h; rcases h with h | h
      · cases h
      · omega
  · rename_i n c x' h1
    cases h1
    split
    · rfl
    · rw [if_neg]; intro h; rcases h with h | h
      · cases h
      · omega
  · rfl
theorem wAppend_or (v x : Value) : wAppend v x = [] ∨ wAppend v x = [sid v] := by
  unfold wAppend
  split
  · split
    · exact .inl rfl
    · split
      · exact .inr rfl
      · exact .inl rfl
  · split
    · exact .inl rfl
    · split
      · exact .inr rfl
      · exact .inl rfl
  · exact .inl rfl
theorem idOf_sid {h : AHeap} {L n k : Nat} {v : Value} {e : TypeId} {cs : List Value} (o : Own h L v n k e cs) : idOf v = [] ∨ idOf v = [sid v] := by
  rcases o.sh with ⟨h0, rfl | ⟨id, rfl, h1, h2⟩⟩ | ⟨hn, id, rfl, h1, ho⟩
  · exact .inl rfl
  · exact .inr rfl
  · exact .inr rfl
end Go.AM
namespace Go.AM
open Go
variable [Ground]
theorem Own.appR {g t : AHeap} {L n k : Nat} {v : Value} {e : TypeId} {cs : List Value} (o : Own (g ++ t) L v n k e cs) (u : AHeap) : Own (g ++ (t ++ u)) L v n k e cs := by
  rw [← List.append_assoc]; exact o.app u
theorem Row.appR {g t : AHeap} {n k : Nat} {v : Value} {cs : List Value} (o : Row (g ++ t) v n k cs) (u : AHeap) : Row (g ++ (t ++ u)) v n k cs := by
  rw [← List.append_assoc]; exact o.app u
end Go.AM
namespace Go.AM
open Go
variable [Ground]
theorem Own.isCell {h : AHeap} {L n k : Nat} {v : Value} {e : TypeId} {cs : List Value} (o : Own h L v n k e cs) : AM.isCell v = true := by
  rcases o.sh with ⟨h0, rfl | ⟨id, rfl, h1, h2⟩⟩ | ⟨hn, id, rfl, h1, ho⟩ <;> rfl
/-- The object ahead may change. -/
theorem Own.head {g t : AHeap} {a b : AObj} {L n k : Nat} {v : Value} {e : TypeId} {cs : List Value} (o : Own (g ++ a :: t) (L + 1) v n k e cs) (hg : g.length = L) : Own (g ++ b :: t) L v n k e cs := by
  refine (o.keep (h' := g ++ b :: t) (by simp) fun hn => ?_).mono (by omega)
  have h1 := (o.sid_lt hn).1
  obtain ⟨j, hj⟩ : ∃ j, sid v = L + 1 + j := ⟨sid v - (L + 1), by omega⟩
  rw [List.getElem?_append_right (by omega), List.getElem?_append_right (by omega), show sid v - g.length = j + 1 by omega]
  rfl
end Go.AM
namespace Go.AM
open Go
variable [Ground]
theorem Row.isCell {h : AHeap} {n k : Nat} {v : Value} {cs : List Value} (r : Row h v n k cs) : AM.isCell v = true := by
  rcases r.shape with ⟨rfl, _⟩ | ⟨c, hv⟩
  · rfl
  · rw [hv]; rfl
theorem Row.slice_form {h : AHeap} {n k : Nat} {v : Value} {cs : List Value} (r : Row h v n k cs) : ∃ a c, v = .slice a n c := by
  rcases r.shape with ⟨rfl, rfl⟩ | ⟨c, hv⟩
  · exact ⟨_, _, rfl⟩
  · exact ⟨_, _, hv⟩
/-- Of two objects at the end, the first one stays. -/
theorem Only.two {L : Nat} {g h' : AHeap} {a b : AObj} (x : Only (L + 1) (g ++ [a, b]) h') (hg : g.length = L) (hl : h'.length = (g ++ [a, b]).length) : ∃ b', h' = g ++ [a, b'] := by
  obtain ⟨t', rfl, _⟩ := x.split (by omega)
  have hl2 : t'.length = 2 := by simp at hl; omega
  match t', hl2 with
  | [c, d], _ =>
    have := x.same L (by simp; omega) (by omega)
    rw [List.getElem?_append_right (by omega), List.getElem?_append_right (by omega), hg] at this
    simp at this
    exact ⟨d, by rw [this]⟩
theorem Only.one {L : Nat} {g h' : AHeap} {b : AObj} (x : Only L (g ++ [b]) h') (hg : g.length = L) (hl : h'.length = (g ++ [b]).length) : ∃ b', h' = g ++ [b'] := by
  obtain ⟨t', rfl, _⟩ := x.split (by omega)
  have hl2 : t'.length = 1 := by simp at hl; omega
  match t', hl2 with
  | [d], _ => exact ⟨d, rfl⟩
theorem Own.unfrz {h t : AHeap} {L n k : Nat} {v : Value} {e : TypeId} {cs : List Value} (o : Own (frz h ++ t) L v n k e cs) (hL : h.length ≤ L) : Own (h ++ t) L v n k e cs := by
  refine o.keep (by simp) fun hn => ?_
  have := (o.sid_lt hn).1
  rw [List.getElem?_append_right (by omega), List.getElem?_append_right (by simp; omega)]; simp
theorem Own.frzL {h t : AHeap} {L n k : Nat} {v : Value} {e : TypeId} {cs : List Value} (o : Own (h ++ t) L v n k e cs) (hL : h.length ≤ L) : Own (frz h ++ t) L v n k e cs := by
  refine o.keep (by simp) fun hn => ?_
  have := (o.sid_lt hn).1
  rw [List.getElem?_append_right (by simp; omega), List.getElem?_append_right (by omega)]; simp
end Go.AM
namespace Go.AM
open Go
variable [Ground]
theorem isVal_of {v : Value} (h : isCell v = true) : isVal v = true ∧ v.cells = #[v] := by
  cases v <;> first | exact ⟨rfl, rfl⟩ | cases h
end Go.AM
namespace Go.AM
open Go
variable [Ground]
section
variable {P : Program}
theorem AC.ofPost {f : FuncId} {args : List Value} {h h' : AHeap} {v : Value} (hcal : cal P f = true) (hlen : h.length ≤ h'.length)
    (hh : ∀ (base : Nat) (ι : Inj) (args' : List Value) (w : World), Inv base ι w → Free ι h.length h'.length → VRL P ι args args' → HR P ι h w →
      Calls P f args'.toArray w fun e w' => ∃ v' ι' W, e = .returned v' ∧ VR P ι' v v' ∧ Post P base W ι ι' h h' w w') : AC P f args h v h' := by
  refine ⟨hcal, hlen, fun base ι args' w hi hf ha hr => (hh base ι args' w hi hf ha hr).mono ?_⟩
  rintro e w' ⟨v', ι', W, rfl, hv, hp⟩
  exact ⟨v', ι', rfl, hv, hp.inv, hp.hr hi hf hr, hp.upd⟩
theorem freeze_size (w : World) (a : Addr) (n : Nat) : (w.freeze a n).heap.size = w.heap.size := by
  unfold World.freeze; split <;> simp
theorem freeze_block (w : World) (a : Addr) (n b : Nat) (hb : b ≠ a.block) : (w.freeze a n).heap[b]? = w.heap[b]? := by
  unfold World.freeze
  split
  · rfl
  · simp only [Array.getElem?_modify]; rw [if_neg (Ne.symm hb)]
theorem freeze_rest (w : World) (a : Addr) (n : Nat) : (w.freeze a n).tape = w.tape ∧ (w.freeze a n).os = w.os ∧ (w.freeze a n).output = w.output := by
  unfold World.freeze; split <;> exact ⟨rfl, rfl, rfl⟩
/-- One object dies, its block may be anything. -/
theorem Post.die {base : Nat} {ι : Inj} {h : AHeap} {w w' : World} {id : Nat} {o : AObj} {l : Loc} (hi : Inv base ι w) (ho : h[id]? = some o) (hw : o.w = true) (hl : ι id = some l) (hown : l.own = true)
    (hsz : w'.heap.size = w.heap.size) (hb : ∀ b, b ≠ l.block → w'.heap[b]? = w.heap[b]?) (hr : w'.tape = w.tape ∧ w'.os = w.os ∧ w'.output = w.output) : Post P base [id] ι ι h (h.set id dead) w w' := by
  have hidlt := (List.getElem?_eq_some_iff.1 ho).1
  have hbase := (hi.own id l hl hown).1
  refine ⟨⟨by rw [hsz]; exact hi.le, fun k m hk => by rw [hsz]; exact hi.lt k m hk, hi.own, hi.ro, hi.gl' fun b hb' => hb b (by omega)⟩, by simp, fun _ _ => rfl, fun k m h1 h2 => by simp at h2; omega, fun j k oj ok l m h1 h2 _ hj => by have := (List.getElem?_eq_some_iff.1 hj).1; simp at this; omega,
    by rw [hsz]; exact Nat.le_refl _, hr.1, hr.2.1, hr.2.2, fun k hk hne => ?_, fun k hk => ?_, fun k o' m hk hm hW => ?_, fun b hb' => ?_⟩
  · have : id ≠ k := fun e => hne (by simp [e])
    rw [List.getElem?_set_ne this]
  · simp at hk; subst hk; exact ⟨o, ho, hw⟩
  · have hk1 : k = id := by
      have := (List.getElem?_eq_some_iff.1 hk).1
      simp at this hW
      omega
    subst hk1
    rw [List.getElem?_set_self hidlt] at hk; cases hk
    exact .dead not_live_dead
  · by_cases e : b = l.block
    · exact .inl ⟨id, l, by simp, hl, e.symm⟩
    · exact .inr (hb b e)
/-- A store of one cell. -/
theorem Post.set1 {base : Nat} {ι : Inj} {h : AHeap} {w : World} {id off : Nat} {o : AObj} {l : Loc} {v v' : Value} (hi : Inv base ι w) (ho : h[id]? = some o) (hw : o.w = true) (hl : ι id = some l) (hok : ObjOK P ι o l w) (hoff : off < o.cells.length) (hv : VR P ι v v') (h1 : v'.oneCell' = true) :
    Post P base [id] ι ι h (h.set id { o with cells := o.cells.set off v }) w (w.setCell ⟨l.block, off, none⟩ v') := by
  have hs : hset h id off [v] = some (h.set id { o with cells := o.cells.set off v }) := by
    unfold hset
    rw [ho]
    simp only [Option.bind_some]
    rw [if_pos ⟨hw, by simp; omega⟩]
    congr 4
    rw [List.set_eq_take_append_cons_drop, if_pos hoff]; simp
  have hvl : VRL P ι [v] [v'] := VRL.cons hv (VRL.nil ι)
  obtain ⟨w', hst, hp⟩ := hset_run hs hi hl (fun o2 h2 => by rw [ho] at h2; cases h2; exact hok) hvl (by simp; exact h1)
  obtain ⟨hown, helem, cs, hblk, hcs, hcsz⟩ := hok.own hw
  have hloff := (hi.own id l hl hown).2
  have e : w' = w.setCell ⟨l.block, off, none⟩ v' := by
    have hrun := run_storeCells_at P l.block off o.elem [v'] 0 cs w hblk (by simp; omega) (by simp; exact h1)
    simp only [Nat.add_zero] at hrun
    rw [hloff, Nat.zero_add, hrun] at hst
    simp only [Result.ok.injEq, true_and] at hst
    rw [← hst]
    unfold World.setRow World.setCell
    congr 1
    apply Array.ext_getElem?
    intro b
    simp only [Array.getElem?_modify]
    split
    · rename_i hb
      subst hb
      rw [hblk]
      simp only [Option.map_some]
      congr 2
      apply Array.ext'
      rw [if_neg (by simp), Array.toList_setIfInBounds, List.set_eq_take_append_cons_drop, if_pos (by simp; omega)]
      simp
    · rfl
  rw [← e]; exact hp
end
end Go.AM
namespace Go.AM
open Go
variable [Ground]
theorem Own.head1 {g t : AHeap} {a b : AObj} {L n k : Nat} {v : Value} {e : TypeId} {cs : List Value} (o : Own (g ++ a :: t) (L + 1) v n k e cs) (hg : g.length = L) : Own (g ++ b :: t) (L + 1) v n k e cs := by
  refine o.keep (h' := g ++ b :: t) (by simp) fun hn => ?_
  have h1 := (o.sid_lt hn).1
  obtain ⟨j, hj⟩ : ∃ j, sid v = L + 1 + j := ⟨sid v - (L + 1), by omega⟩
  rw [List.getElem?_append_right (by omega), List.getElem?_append_right (by omega), show sid v - g.length = j + 1 by omega]
  rfl
end Go.AM

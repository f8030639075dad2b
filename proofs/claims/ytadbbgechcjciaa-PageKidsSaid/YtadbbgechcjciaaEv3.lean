/- Steps of memory, more: a written object, one that is given up, one that is closed. No conditions. -/
import Derived.Test.YtadbbgechcjciaaEv2
set_option linter.unusedVariables false
set_option linter.unusedSectionVars false
namespace Go.Ev
open Go
variable [Gh]

/-- W' is W but for what block b's cells hold -/
def But (b : Nat) (W W' : Array Obj) : Prop := W'.size = W.size ∧ (∀ q, q ≠ b → W'[q]? = W[q]?) ∧ cellsAt W' b = cellsAt W b

theorem live_set_box {H : Heap} {r : Nat} {as as' : List AV} (h : H.at r = some (.box as)) {q : Nat} (hq : Live (H.set r (some (.box as'))) q) : Live H q := by
  rcases hq with ⟨cs, hc⟩ | ⟨sz, n, row, hc⟩
  · rcases at_set hc with ⟨rfl, _⟩ | ⟨_, hc⟩
    · exact .inl ⟨as, h⟩
    · exact .inl ⟨cs, hc⟩
  · rcases at_set hc with ⟨rfl, hx⟩ | ⟨_, hc⟩
    · cases hx
    · exact .inr ⟨_, _, _, hc⟩
theorem live_set_arr {H : Heap} {r sz n sz' n' : Nat} {row row' : Nat → List AV} (h : H.at r = some (.arr sz n row)) {q : Nat} (hq : Live (H.set r (some (.arr sz' n' row'))) q) : Live H q := by
  rcases hq with ⟨cs, hc⟩ | ⟨sz, n, row, hc⟩
  · rcases at_set hc with ⟨rfl, hx⟩ | ⟨_, hc⟩
    · cases hx
    · exact .inl ⟨cs, hc⟩
  · rcases at_set hc with ⟨rfl, hx⟩ | ⟨_, hc⟩
    · exact .inr ⟨_, _, _, h⟩
    · exact .inr ⟨_, _, _, hc⟩

theorem Evo.set_box {β : Nat → Nat} {H : Heap} {W W' : Array Obj} (h : HR β H W) {r : Nat} {as : List AV} (hr : H.at r = some (.box as)) (as' : List AV) (hb : But (β r) W W') :
    Evo β H W β (H.set r (some (.box as'))) W' where
  size := by rw [hb.1]; exact Nat.le_refl _
  gh b hg _ := hb.2.1 b (Ne.symm ((h.gh b hg).2 r (.inl ⟨as, hr⟩)))
  imm b hi := ⟨hb.2.1 b (Ne.symm (hi.2.1 r (.inl ⟨as, hr⟩))), by rw [hb.1]; exact hi.1, fun q hq => hi.2.1 q (live_set_box hr hq), hi.2.2⟩
  len := by simp
  box q bs hq := by
    by_cases e : q = r
    · subst e; exact ⟨rfl, as', at_set_eq (Heap.at_lt hr)⟩
    · exact ⟨rfl, bs, by rw [at_set_ne e]; exact hq⟩
  arr q sz n row hq := by
    have e : q ≠ r := by rintro rfl; rw [hr] at hq; cases hq
    refine .inr ⟨rfl, ⟨row, .inl (by rw [at_set_ne e]; exact hq)⟩, ?_⟩
    exact cellsAt_congr (hb.2.1 _ fun e' => e (h.inj q r (.inr ⟨_, _, _, hq⟩) (.inl ⟨_, hr⟩) e'))
  fro q sz n row hq := by
    have e : q ≠ r := by rintro rfl; rw [hr] at hq; cases hq
    obtain ⟨vs, e', fz, hi, _⟩ := h.fro q sz n row hq
    exact ⟨rfl, by rw [at_set_ne e]; exact hq, cellsAt_congr (hb.2.1 _ (Ne.symm (hi.2.1 r (.inl ⟨as, hr⟩))))⟩
  dead q hl hq := by
    have e : q ≠ r := by rintro rfl; rw [hr] at hq; cases hq
    rw [at_set_ne e]; exact hq

theorem HR.set_box {β : Nat → Nat} {H : Heap} {W W' : Array Obj} (h : HR β H W) {r : Nat} {as : List AV} (hr : H.at r = some (.box as)) (as' : List AV) (hb : But (β r) W W')
    (vs : Array Value) (e : TypeId) (hw : W'[β r]? = some (.cells vs e (0, 0))) (hs : vs.size = as'.length) (hl : allLeaf as' = true)
    (hR : ∀ j, j < as'.length → R β H W (vs.getD j undef) (as'.getD j .und)) : HR β (H.set r (some (.box as'))) W' where
  inj q q' hq hq' := h.inj q q' (live_set_box hr hq) (live_set_box hr hq')
  gh b hg := ⟨by rw [hb.1]; exact (h.gh b hg).1, fun q hq => (h.gh b hg).2 q (live_set_box hr hq)⟩
  box q bs hq := by
    rcases at_set hq with ⟨rfl, hx⟩ | ⟨ne, hq⟩
    · cases hx
      exact ⟨vs, e, hw, hs, hl, fun j hj => (hR j hj).stays (Evo.set_box h hr as' hb)⟩
    · obtain ⟨us, e', h1, h2, h3, h4⟩ := h.box q bs hq
      exact ⟨us, e', by rw [hb.2.1 _ fun e' => ne (h.inj q r (.inl ⟨_, hq⟩) (.inl ⟨_, hr⟩) e')]; exact h1, h2, h3, fun j hj => (h4 j hj).stays (Evo.set_box h hr as' hb)⟩
  arr q sz n row hq := by
    rcases at_set hq with ⟨rfl, hx⟩ | ⟨ne, hq⟩
    · cases hx
    · obtain ⟨us, e', fz, h1, h2, h3, h4, h5⟩ := h.arr q sz n row hq
      exact ⟨us, e', fz, by rw [hb.2.1 _ fun e' => ne (h.inj q r (.inr ⟨_, _, _, hq⟩) (.inl ⟨_, hr⟩) e')]; exact h1, h2, h3, h4, fun i j hi hj => (h5 i j hi hj).stays (Evo.set_box h hr as' hb)⟩
  fro q sz n row hq := by
    rcases at_set hq with ⟨rfl, hx⟩ | ⟨ne, hq⟩
    · cases hx
    · obtain ⟨us, e', fz, hi, h1, h2, h4, h5⟩ := h.fro q sz n row hq
      exact ⟨us, e', fz, ((Evo.set_box h hr as' hb).imm _ hi).2, by rw [hb.2.1 _ (Ne.symm (hi.2.1 r (.inl ⟨as, hr⟩)))]; exact h1, h2, h4, fun i j hi hj => (h5 i j hi hj).stays (Evo.set_box h hr as' hb)⟩

theorem Evo.set_arr {β : Nat → Nat} {H : Heap} {W W' : Array Obj} (h : HR β H W) {r sz n : Nat} {row : Nat → List AV} (hr : H.at r = some (.arr sz n row)) (row' : Nat → List AV) (hb : But (β r) W W') :
    Evo β H W β (H.set r (some (.arr sz n row'))) W' where
  size := by rw [hb.1]; exact Nat.le_refl _
  gh b hg _ := hb.2.1 b (Ne.symm ((h.gh b hg).2 r (.inr ⟨_, _, _, hr⟩)))
  imm b hi := ⟨hb.2.1 b (Ne.symm (hi.2.1 r (.inr ⟨_, _, _, hr⟩))), by rw [hb.1]; exact hi.1, fun q hq => hi.2.1 q (live_set_arr hr hq), hi.2.2⟩
  len := by simp
  box q bs hq := by
    have e : q ≠ r := by rintro rfl; rw [hr] at hq; cases hq
    exact ⟨rfl, bs, by rw [at_set_ne e]; exact hq⟩
  arr q sz' n' row2 hq := by
    by_cases e : q = r
    · subst e
      rw [hr] at hq; cases hq
      exact .inr ⟨rfl, ⟨row', .inl (at_set_eq (Heap.at_lt hr))⟩, hb.2.2⟩
    · refine .inr ⟨rfl, ⟨row2, .inl (by rw [at_set_ne e]; exact hq)⟩, ?_⟩
      exact cellsAt_congr (hb.2.1 _ fun e' => e (h.inj q r (.inr ⟨_, _, _, hq⟩) (.inr ⟨_, _, _, hr⟩) e'))
  fro q sz' n' row2 hq := by
    have e : q ≠ r := by rintro rfl; rw [hr] at hq; cases hq
    obtain ⟨vs, e', fz, hi, _⟩ := h.fro q sz' n' row2 hq
    exact ⟨rfl, by rw [at_set_ne e]; exact hq, cellsAt_congr (hb.2.1 _ (Ne.symm (hi.2.1 r (.inr ⟨_, _, _, hr⟩))))⟩
  dead q hl hq := by
    have e : q ≠ r := by rintro rfl; rw [hr] at hq; cases hq
    rw [at_set_ne e]; exact hq

theorem HR.set_arr {β : Nat → Nat} {H : Heap} {W W' : Array Obj} (h : HR β H W) {r sz n : Nat} {row : Nat → List AV} (hr : H.at r = some (.arr sz n row)) (row' : Nat → List AV) (hb : But (β r) W W')
    (vs : Array Value) (e : TypeId) (fz : Nat × Nat) (hw : W'[β r]? = some (.cells vs e fz)) (hs : n * sz ≤ vs.size) (hz : vs.size ≤ fz.1 + (if fz.1 < fz.2 then 0 else vs.size))
    (hl : ∀ i, i < n → (row' i).length = sz ∧ allLeaf (row' i) = true ∧ pureL (row' i) = true)
    (hR : ∀ i j, i < n → j < sz → R β H W (vs.getD (i * sz + j) undef) ((row' i).getD j .und)) : HR β (H.set r (some (.arr sz n row'))) W' where
  inj q q' hq hq' := h.inj q q' (live_set_arr hr hq) (live_set_arr hr hq')
  gh b hg := ⟨by rw [hb.1]; exact (h.gh b hg).1, fun q hq => (h.gh b hg).2 q (live_set_arr hr hq)⟩
  box q bs hq := by
    rcases at_set hq with ⟨rfl, hx⟩ | ⟨ne, hq⟩
    · cases hx
    · obtain ⟨us, e', h1, h2, h3, h4⟩ := h.box q bs hq
      exact ⟨us, e', by rw [hb.2.1 _ fun e' => ne (h.inj q r (.inl ⟨_, hq⟩) (.inr ⟨_, _, _, hr⟩) e')]; exact h1, h2, h3, fun j hj => (h4 j hj).stays (Evo.set_arr h hr row' hb)⟩
  arr q sz' n' row2 hq := by
    rcases at_set hq with ⟨rfl, hx⟩ | ⟨ne, hq⟩
    · cases hx
      exact ⟨vs, e, fz, hw, hs, hz, hl, fun i j hi hj => (hR i j hi hj).stays (Evo.set_arr h hr row' hb)⟩
    · obtain ⟨us, e', fz, h1, h2, h3, h4, h5⟩ := h.arr q sz' n' row2 hq
      exact ⟨us, e', fz, by rw [hb.2.1 _ fun e' => ne (h.inj q r (.inr ⟨_, _, _, hq⟩) (.inr ⟨_, _, _, hr⟩) e')]; exact h1, h2, h3, h4, fun i j hi hj => (h5 i j hi hj).stays (Evo.set_arr h hr row' hb)⟩
  fro q sz' n' row2 hq := by
    rcases at_set hq with ⟨rfl, hx⟩ | ⟨ne, hq⟩
    · cases hx
    · obtain ⟨us, e', fz, hi, h1, h2, h4, h5⟩ := h.fro q sz' n' row2 hq
      exact ⟨us, e', fz, ((Evo.set_arr h hr row' hb).imm _ hi).2, by rw [hb.2.1 _ (Ne.symm (hi.2.1 r (.inr ⟨_, _, _, hr⟩)))]; exact h1, h2, h4, fun i j hi hj => (h5 i j hi hj).stays (Evo.set_arr h hr row' hb)⟩

/-- an object is given up -/
theorem live_set_none {H : Heap} {r : Nat} {q : Nat} (hq : Live (H.set r none) q) : q ≠ r ∧ Live H q := by
  rcases hq with ⟨cs, hc⟩ | ⟨sz, n, row, hc⟩
  · rcases at_set hc with ⟨rfl, hx⟩ | ⟨e, hc⟩
    · cases hx
    · exact ⟨e, .inl ⟨cs, hc⟩⟩
  · rcases at_set hc with ⟨rfl, hx⟩ | ⟨e, hc⟩
    · cases hx
    · exact ⟨e, .inr ⟨_, _, _, hc⟩⟩
theorem Evo.kill {β : Nat → Nat} {H : Heap} {W : Array Obj} {r sz n : Nat} {row : Nat → List AV} (hr : H.at r = some (.arr sz n row)) : Evo β H W β (H.set r none) W where
  size := Nat.le_refl _
  gh _ _ _ := rfl
  imm b hi := ⟨rfl, hi.1, fun q hq => hi.2.1 q (live_set_none hq).2, hi.2.2⟩
  len := by simp
  box q bs hq := by
    have e : q ≠ r := by rintro rfl; rw [hr] at hq; cases hq
    exact ⟨rfl, bs, by rw [at_set_ne e]; exact hq⟩
  arr q sz' n' row2 hq := by
    by_cases e : q = r
    · subst e; exact .inl (at_set_eq (Heap.at_lt hr))
    · exact .inr ⟨rfl, ⟨row2, .inl (by rw [at_set_ne e]; exact hq)⟩, rfl⟩
  fro q sz' n' row2 hq := by
    have e : q ≠ r := by rintro rfl; rw [hr] at hq; cases hq
    exact ⟨rfl, by rw [at_set_ne e]; exact hq, rfl⟩
  dead q hl hq := by
    by_cases e : q = r
    · subst e; exact at_set_eq hl
    · rw [at_set_ne e]; exact hq
theorem HR.kill {β : Nat → Nat} {H : Heap} {W : Array Obj} (h : HR β H W) {r sz n : Nat} {row : Nat → List AV} (hr : H.at r = some (.arr sz n row)) : HR β (H.set r none) W where
  inj q q' hq hq' := h.inj q q' (live_set_none hq).2 (live_set_none hq').2
  gh b hg := ⟨(h.gh b hg).1, fun q hq => (h.gh b hg).2 q (live_set_none hq).2⟩
  box q bs hq := by
    rcases at_set hq with ⟨rfl, hx⟩ | ⟨ne, hq⟩
    · cases hx
    · obtain ⟨us, e', h1, h2, h3, h4⟩ := h.box q bs hq
      exact ⟨us, e', h1, h2, h3, fun j hj => (h4 j hj).stays (Evo.kill hr)⟩
  arr q sz' n' row2 hq := by
    rcases at_set hq with ⟨rfl, hx⟩ | ⟨ne, hq⟩
    · cases hx
    · obtain ⟨us, e', fz, h1, h2, h3, h4, h5⟩ := h.arr q sz' n' row2 hq
      exact ⟨us, e', fz, h1, h2, h3, h4, fun i j hi hj => (h5 i j hi hj).stays (Evo.kill hr)⟩
  fro q sz' n' row2 hq := by
    rcases at_set hq with ⟨rfl, hx⟩ | ⟨ne, hq⟩
    · cases hx
    · obtain ⟨us, e', fz, hi, h1, h2, h4, h5⟩ := h.fro q sz' n' row2 hq
      exact ⟨us, e', fz, ((Evo.kill hr).imm _ hi).2, h1, h2, h4, fun i j hi hj => (h5 i j hi hj).stays (Evo.kill hr)⟩

/-- an object is closed -/
theorem live_set_fro {H : Heap} {r sz n : Nat} {row : Nat → List AV} {q : Nat} (hq : Live (H.set r (some (.fro sz n row))) q) : q ≠ r ∧ Live H q := by
  rcases hq with ⟨cs, hc⟩ | ⟨sz, n, row, hc⟩
  · rcases at_set hc with ⟨rfl, hx⟩ | ⟨e, hc⟩
    · cases hx
    · exact ⟨e, .inl ⟨cs, hc⟩⟩
  · rcases at_set hc with ⟨rfl, hx⟩ | ⟨e, hc⟩
    · cases hx
    · exact ⟨e, .inr ⟨_, _, _, hc⟩⟩
theorem Evo.close {β : Nat → Nat} {H : Heap} {W : Array Obj} {r sz n : Nat} {row : Nat → List AV} (hr : H.at r = some (.arr sz n row)) : Evo β H W β (H.set r (some (.fro sz n row))) W where
  size := Nat.le_refl _
  gh _ _ _ := rfl
  imm b hi := ⟨rfl, hi.1, fun q hq => hi.2.1 q (live_set_fro hq).2, hi.2.2⟩
  len := by simp
  box q bs hq := by
    have e : q ≠ r := by rintro rfl; rw [hr] at hq; cases hq
    exact ⟨rfl, bs, by rw [at_set_ne e]; exact hq⟩
  arr q sz' n' row2 hq := by
    by_cases e : q = r
    · subst e; rw [hr] at hq; cases hq; exact .inr ⟨rfl, ⟨row, .inr (at_set_eq (Heap.at_lt hr))⟩, rfl⟩
    · exact .inr ⟨rfl, ⟨row2, .inl (by rw [at_set_ne e]; exact hq)⟩, rfl⟩
  fro q sz' n' row2 hq := by
    have e : q ≠ r := by rintro rfl; rw [hr] at hq; cases hq
    exact ⟨rfl, by rw [at_set_ne e]; exact hq, rfl⟩
  dead q hl hq := by
    have e : q ≠ r := by rintro rfl; rw [hr] at hq; cases hq
    rw [at_set_ne e]; exact hq
theorem HR.close {β : Nat → Nat} {H : Heap} {W : Array Obj} (h : HR β H W) {r sz n : Nat} {row : Nat → List AV} (hr : H.at r = some (.arr sz n row)) : HR β (H.set r (some (.fro sz n row))) W where
  inj q q' hq hq' := h.inj q q' (live_set_fro hq).2 (live_set_fro hq').2
  gh b hg := ⟨(h.gh b hg).1, fun q hq => (h.gh b hg).2 q (live_set_fro hq).2⟩
  box q bs hq := by
    rcases at_set hq with ⟨rfl, hx⟩ | ⟨ne, hq⟩
    · cases hx
    · obtain ⟨us, e', h1, h2, h3, h4⟩ := h.box q bs hq
      exact ⟨us, e', h1, h2, h3, fun j hj => (h4 j hj).stays (Evo.close hr)⟩
  arr q sz' n' row2 hq := by
    rcases at_set hq with ⟨rfl, hx⟩ | ⟨ne, hq⟩
    · cases hx
    · obtain ⟨us, e', fz, h1, h2, h3, h4, h5⟩ := h.arr q sz' n' row2 hq
      exact ⟨us, e', fz, h1, h2, h3, h4, fun i j hi hj => (h5 i j hi hj).stays (Evo.close hr)⟩
  fro q sz' n' row2 hq := by
    rcases at_set hq with ⟨rfl, hx⟩ | ⟨ne, hq⟩
    · cases hx
      obtain ⟨us, e', fz, h1, h2, h3, h4, h5⟩ := h.arr q sz n row hr
      refine ⟨us, e', fz, ⟨some_lt h1, fun p hp e => ?_, fun hg => (h.gh _ hg).2 q (.inr ⟨_, _, _, hr⟩) rfl⟩, h1, h2, h4, fun i j hi hj => (h5 i j hi hj).stays (Evo.close hr)⟩
      obtain ⟨np, lp⟩ := live_set_fro hp
      exact np (h.inj p q lp (.inr ⟨_, _, _, hr⟩) e)
    · obtain ⟨us, e', fz, hi, h1, h2, h4, h5⟩ := h.fro q sz' n' row2 hq
      exact ⟨us, e', fz, ((Evo.close hr).imm _ hi).2, h1, h2, h4, fun i j hi hj => (h5 i j hi hj).stays (Evo.close hr)⟩
end Go.Ev

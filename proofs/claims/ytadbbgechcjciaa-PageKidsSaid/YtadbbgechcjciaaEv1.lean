/- What the reckoner's values stand for: a value of the machine, in a memory, is as told; and that it stays so while only new memory and the call's own objects are written. No conditions. -/
import Derived.Test.YtadbbgechcjciaaEv0
set_option linter.unusedSectionVars false
namespace Go.Ev
open Go

/-- blocks that are none of the call's business -/
class Gh where
  g : Nat → Prop
variable [Gh]

def Live (H : Heap) (r : Nat) : Prop := (∃ cs, H.at r = some (.box cs)) ∨ ∃ sz n row, H.at r = some (.arr sz n row)
/-- a block that is there and is none of the call's own that may be written -/
def Imm (β : Nat → Nat) (H : Heap) (W : Array Obj) (b : Nat) : Prop := b < W.size ∧ (∀ r, Live H r → β r ≠ b) ∧ ¬ Gh.g b

def cellsAt (W : Array Obj) (b : Nat) : Option Nat := match W[b]? with
  | some (.cells c _ _) => some c.size
  | _ => none
theorem cellsAt_of {W : Array Obj} {b : Nat} {c : Array Value} {e : TypeId} {fz : Nat × Nat} (h : W[b]? = some (.cells c e fz)) : cellsAt W b = some c.size := by unfold cellsAt; rw [h]
theorem cellsAt_congr {W W' : Array Obj} {b : Nat} (h : W'[b]? = W[b]?) : cellsAt W' b = cellsAt W b := by unfold cellsAt; rw [h]

/-- a value of the machine is as told -/
inductive R (β : Nat → Nat) (H : Heap) (W : Array Obj) : Value → AV → Prop
  | int (k : IntKind) (n : Int) : R β H W (.int k n) (.int k n)
  | bool (b : Bool) : R β H W (.bool b) (.bool b)
  | str (s : ByteArray) : R β H W (.string s) (.str s)
  | sl0 (a : Option Addr) (c sz : Nat) (row : Nat → List AV) (full : Bool) (hf : full = true → c = 0) : R β H W (.slice a 0 c) (.sl sz 0 row full)
  | sl (b o n c sz : Nat) (row : Nat → List AV) (full : Bool) (cs : Array Value) (e : TypeId) (fz : Nat × Nat) (vf : Nat → Nat → Value)
      (hi : Imm β H W b) (hW : W[b]? = some (.cells cs e fz)) (hc : n ≤ c) (hf : full = true → c = n)
      (hl : ∀ i, i < n → (row i).length = sz ∧ allLeaf (row i) = true ∧ pureL (row i) = true)
      (hv : ∀ i j, i < n → j < sz → cs[o + i * sz + j]? = some (vf i j))
      (hR : ∀ i j, i < n → j < sz → R β H W (vf i j) ((row i).getD j .und)) :
      R β H W (.slice (some ⟨b, o, none⟩) n c) (.sl sz n row full)
  | osl (r off len c sz N m : Nat) (row : Nat → List AV) (full : Bool) (a : Option Addr) (ha : 0 < c → a = some ⟨β r, off * sz, none⟩)
      (hH : H.at r = some (.arr sz N row) ∨ H.at r = some (.fro sz N row)) (hW : cellsAt W (β r) = some m) (hn : off + len ≤ N) (hc : len ≤ c) (hf : full = true → c = len)
      (hs : (off + c) * sz ≤ m) (hu : full = false → N ≤ off + c) : R β H W (.slice a len c) (.osl sz r off len full)
  | osld (sz r off len c b o : Nat) (full : Bool) (a : Option Addr) (ha : 0 < c → a = some ⟨b, o, none⟩) (hc : len ≤ c) (hf : full = true → c = len) (hr : r < H.length) (hH : H.at r = none) : R β H W (.slice a len c) (.osl sz r off len full)
  | ref (r off : Nat) (cs : List AV) (hH : H.at r = some (.box cs)) : R β H W (.pointer (some ⟨β r, off, none⟩)) (.ref r off)
  | eref (r i off sz N : Nat) (row : Nat → List AV) (hH : H.at r = some (.arr sz N row) ∨ H.at r = some (.fro sz N row)) (hi : i < N) : R β H W (.pointer (some ⟨β r, i * sz + off, none⟩)) (.eref r i off)
  | erefd (r i off : Nat) (a : Addr) (hr : r < H.length) (hH : H.at r = none) : R β H W (.pointer (some a)) (.eref r i off)
  | rref (b o off : Nat) (as : List AV) (cs : Array Value) (e : TypeId) (fz : Nat × Nat) (vf : Nat → Value)
      (hi : Imm β H W b) (hW : W[b]? = some (.cells cs e fz)) (hl : allLeaf as = true ∧ pureL as = true)
      (hv : ∀ j, j < as.length → cs[o + j]? = some (vf j)) (hR : ∀ j, j < as.length → R β H W (vf j) (as.getD j .und)) :
      R β H W (.pointer (some ⟨b, o + off, none⟩)) (.rref as off)
  | lsl (b o n sz : Nat) (as : List AV) (cs : Array Value) (e : TypeId) (fz : Nat × Nat) (vf : Nat → Value)
      (hi : Imm β H W b) (hW : W[b]? = some (.cells cs e fz)) (hl : allLeaf as = true) (hn : as.length = n * sz)
      (hv : ∀ j, j < as.length → cs[o + j]? = some (vf j)) (hR : ∀ j, j < as.length → R β H W (vf j) (as.getD j .und)) :
      R β H W (.slice (some ⟨b, o, none⟩) n n) (.lsl sz n as)
  | lref (b o off : Nat) (as : List AV) (cs : Array Value) (e : TypeId) (fz : Nat × Nat) (vf : Nat → Value)
      (hi : Imm β H W b) (hW : W[b]? = some (.cells cs e fz)) (hl : allLeaf as = true)
      (hv : ∀ j, j < as.length → cs[o + j]? = some (vf j)) (hR : ∀ j, j < as.length → R β H W (vf j) (as.getD j .und)) :
      R β H W (.pointer (some ⟨b, o + off, none⟩)) (.lref as off)
  | nilp : R β H W (.pointer none) .nilp
  | fn (f : Nat) (vs us : Array Value) (as bs : List AV) (hv : vs.size = as.length) (hu : us.size = bs.length)
      (hR : ∀ j, j < as.length → R β H W (vs.getD j undef) (as.getD j .und)) (hS : ∀ j, j < bs.length → R β H W (us.getD j undef) (bs.getD j .und)) :
      R β H W (.func (.func f) vs us) (.fn f as bs)
  | nilfn : R β H W .nilFunc .nilfn
  | agg (vs : Array Value) (as : List AV) (hv : vs.size = as.length) (hl : allLeaf as = true) (hR : ∀ j, j < as.length → R β H W (vs.getD j undef) (as.getD j .und)) : R β H W (.agg vs) (.agg as)
  | tup (vs : Array Value) (as : List AV) (hv : vs.size = as.length) (hR : ∀ j, j < as.length → R β H W (vs.getD j undef) (as.getD j .und)) : R β H W (.tuple vs) (.tup as)
  | und : R β H W undef .und

/-- the call's own objects lie in memory as told -/
structure HR (β : Nat → Nat) (H : Heap) (W : Array Obj) : Prop where
  inj : ∀ r r', Live H r → Live H r' → β r = β r' → r = r'
  gh : ∀ b, Gh.g b → b < W.size ∧ ∀ r, Live H r → β r ≠ b
  box : ∀ r as, H.at r = some (.box as) → ∃ vs e, W[β r]? = some (.cells vs e (0, 0)) ∧ vs.size = as.length ∧ allLeaf as = true ∧ ∀ j, j < as.length → R β H W (vs.getD j undef) (as.getD j .und)
  arr : ∀ r sz n row, H.at r = some (.arr sz n row) → ∃ vs e fz, W[β r]? = some (.cells vs e fz) ∧ n * sz ≤ vs.size ∧ vs.size ≤ fz.1 + (if fz.1 < fz.2 then 0 else vs.size) ∧
    (∀ i, i < n → (row i).length = sz ∧ allLeaf (row i) = true ∧ pureL (row i) = true) ∧ ∀ i j, i < n → j < sz → R β H W (vs.getD (i * sz + j) undef) ((row i).getD j .und)
  fro : ∀ r sz n row, H.at r = some (.fro sz n row) → ∃ vs e fz, Imm β H W (β r) ∧ W[β r]? = some (.cells vs e fz) ∧ n * sz ≤ vs.size ∧
    (∀ i, i < n → (row i).length = sz ∧ allLeaf (row i) = true ∧ pureL (row i) = true) ∧ ∀ i j, i < n → j < sz → R β H W (vs.getD (i * sz + j) undef) ((row i).getD j .und)

/-- how objects and memory may go on -/
structure Evo (β : Nat → Nat) (H : Heap) (W : Array Obj) (β' : Nat → Nat) (H' : Heap) (W' : Array Obj) : Prop where
  size : W.size ≤ W'.size
  gh : ∀ b, Gh.g b → b < W.size → W'[b]? = W[b]?
  imm : ∀ b, Imm β H W b → W'[b]? = W[b]? ∧ Imm β' H' W' b
  len : H.length ≤ H'.length
  box : ∀ r as, H.at r = some (.box as) → β' r = β r ∧ ∃ as', H'.at r = some (.box as')
  arr : ∀ r sz n row, H.at r = some (.arr sz n row) → H'.at r = none ∨ (β' r = β r ∧ (∃ row', H'.at r = some (.arr sz n row') ∨ H'.at r = some (.fro sz n row')) ∧ cellsAt W' (β r) = cellsAt W (β r))
  fro : ∀ r sz n row, H.at r = some (.fro sz n row) → β' r = β r ∧ H'.at r = some (.fro sz n row) ∧ cellsAt W' (β r) = cellsAt W (β r)
  dead : ∀ r, r < H.length → H.at r = none → H'.at r = none

theorem Evo.refl (β : Nat → Nat) (H : Heap) (W : Array Obj) : Evo β H W β H W :=
  ⟨Nat.le_refl _, fun _ _ _ => rfl, fun _ h => ⟨rfl, h⟩, Nat.le_refl _, fun _ as h => ⟨rfl, as, h⟩, fun _ _ _ row h => .inr ⟨rfl, ⟨row, .inl h⟩, rfl⟩, fun _ _ _ _ h => ⟨rfl, h, rfl⟩, fun _ _ h => h⟩

omit [Gh] in
theorem Heap.at_lt {H : Heap} {r : Nat} {o : Ob} (h : H.at r = some o) : r < H.length := by
  unfold Heap.at at h
  rcases Nat.lt_or_ge r H.length with hl | hl
  · exact hl
  · simp [hl] at h

theorem Evo.trans {β β' β'' : Nat → Nat} {H H' H'' : Heap} {W W' W'' : Array Obj} (h : Evo β H W β' H' W') (k : Evo β' H' W' β'' H'' W'') : Evo β H W β'' H'' W'' where
  size := Nat.le_trans h.size k.size
  gh b hb hl := (k.gh b hb (Nat.lt_of_lt_of_le hl h.size)).trans (h.gh b hb hl)
  imm b hb := by
    obtain ⟨e1, i1⟩ := h.imm b hb
    obtain ⟨e2, i2⟩ := k.imm b i1
    exact ⟨e2.trans e1, i2⟩
  len := Nat.le_trans h.len k.len
  box r as hr := by
    obtain ⟨e1, as', h1⟩ := h.box r as hr
    obtain ⟨e2, as'', h2⟩ := k.box r as' h1
    exact ⟨e2.trans e1, as'', h2⟩
  arr r sz n row hr := by
    have hlt : r < H'.length := Nat.lt_of_lt_of_le (Heap.at_lt hr) h.len
    rcases h.arr r sz n row hr with hd | ⟨e1, ⟨row', h1⟩, hc⟩
    · exact .inl (k.dead r hlt hd)
    · rcases h1 with h1 | h1
      · rcases k.arr r sz n row' h1 with hd | ⟨e2, h2, hc2⟩
        · exact .inl hd
        · exact .inr ⟨e2.trans e1, h2, by rw [← hc, ← e1]; exact hc2⟩
      · obtain ⟨e2, h2, hc2⟩ := k.fro r sz n row' h1
        exact .inr ⟨e2.trans e1, ⟨row', .inr h2⟩, by rw [← hc, ← e1]; exact hc2⟩
  fro r sz n row hr := by
    obtain ⟨e1, h1, c1⟩ := h.fro r sz n row hr
    obtain ⟨e2, h2, c2⟩ := k.fro r sz n row h1
    exact ⟨e2.trans e1, h2, by rw [← c1, ← e1]; exact c2⟩
  dead r hl hr := k.dead r (Nat.lt_of_lt_of_le hl h.len) (h.dead r hl hr)

theorem R.stays {β β' : Nat → Nat} {H H' : Heap} {W W' : Array Obj} (k : Evo β H W β' H' W') {v : Value} {a : AV} (h : R β H W v a) : R β' H' W' v a := by
  induction h with
  | int k n => exact .int k n
  | bool b => exact .bool b
  | str s => exact .str s
  | sl0 a c sz row full hf => exact .sl0 a c sz row full hf
  | sl b o n c sz row full cs e fz vf hi hW hc hf hl hv hR ih =>
    obtain ⟨e1, i1⟩ := k.imm b hi
    exact .sl b o n c sz row full cs e fz vf i1 (e1.trans hW) hc hf hl hv ih
  | osl r off len c sz N m row full a ha hH hW hn hc hf hs hu =>
    rcases hH with hH | hH
    · rcases k.arr r sz N row hH with hd | ⟨e1, ⟨row', h1⟩, hm⟩
      · exact .osld sz r off len c (β r) (off * sz) full a ha hc hf (Nat.lt_of_lt_of_le (Heap.at_lt hH) k.len) hd
      · exact .osl r off len c sz N m row' full a (by rw [e1]; exact ha) h1 (by rw [e1, hm]; exact hW) hn hc hf hs hu
    · obtain ⟨e1, h1, hm⟩ := k.fro r sz N row hH
      exact .osl r off len c sz N m row full a (by rw [e1]; exact ha) (.inr h1) (by rw [e1, hm]; exact hW) hn hc hf hs hu
  | osld sz r off len c b o full a ha hc hf hr hH => exact .osld sz r off len c b o full a ha hc hf (Nat.lt_of_lt_of_le hr k.len) (k.dead r hr hH)
  | ref r off cs hH =>
    obtain ⟨e1, as', h1⟩ := k.box r cs hH
    rw [← e1]
    exact .ref r off as' h1
  | eref r i off sz N row hH hi =>
    rcases hH with hH | hH
    · rcases k.arr r sz N row hH with hd | ⟨e1, ⟨row', h1⟩, hm⟩
      · exact .erefd r i off _ (Nat.lt_of_lt_of_le (Heap.at_lt hH) k.len) hd
      · rw [← e1]; exact .eref r i off sz N row' h1 hi
    · obtain ⟨e1, h1, hm⟩ := k.fro r sz N row hH
      rw [← e1]; exact .eref r i off sz N row (.inr h1) hi
  | erefd r i off a hr hH => exact .erefd r i off a (Nat.lt_of_lt_of_le hr k.len) (k.dead r hr hH)
  | rref b o off as cs e fz vf hi hW hl hv hR ih =>
    obtain ⟨e1, i1⟩ := k.imm b hi
    exact .rref b o off as cs e fz vf i1 (e1.trans hW) hl hv ih
  | lsl b o n sz as cs e fz vf hi hW hl hn hv hR ih =>
    obtain ⟨e1, i1⟩ := k.imm b hi
    exact .lsl b o n sz as cs e fz vf i1 (e1.trans hW) hl hn hv ih
  | lref b o off as cs e fz vf hi hW hl hv hR ih =>
    obtain ⟨e1, i1⟩ := k.imm b hi
    exact .lref b o off as cs e fz vf i1 (e1.trans hW) hl hv ih
  | nilp => exact .nilp
  | fn f vs us as bs hv hu hR hS ihR ihS => exact .fn f vs us as bs hv hu ihR ihS
  | nilfn => exact .nilfn
  | agg vs as hv hl hR ih => exact .agg vs as hv hl ih
  | tup vs as hv hR ih => exact .tup vs as hv ih
  | und => exact .und
end Go.Ev

/- Steps of memory: a new object, a new block that is never written, a written object, one that is given up. No conditions. -/
import Derived.Test.YtadbbgechcjciaaEv1
set_option linter.unusedSectionVars false
namespace Go.Ev
open Go

theorem at_app_lt {H : Heap} {o : Option Ob} {r : Nat} (h : r < H.length) : Heap.at (H ++ [o]) r = H.at r := by
  simp [Heap.at, List.getD_eq_getElem?_getD, List.getElem?_append_left h]
theorem at_app_eq {H : Heap} {o : Option Ob} : Heap.at (H ++ [o]) H.length = o := by
  simp [Heap.at, List.getD_eq_getElem?_getD]
theorem at_app_gt {H : Heap} {o : Option Ob} {r : Nat} (h : H.length < r) : Heap.at (H ++ [o]) r = none := by
  simp [Heap.at, List.getD_eq_getElem?_getD, List.getElem?_append_right (Nat.le_of_lt h)]
  rw [List.getElem?_eq_none (by simp; omega)]; rfl
theorem at_app {H : Heap} {o : Option Ob} {r : Nat} {x : Ob} (h : Heap.at (H ++ [o]) r = some x) : (r < H.length ∧ H.at r = some x) ∨ (r = H.length ∧ o = some x) := by
  rcases Nat.lt_trichotomy r H.length with hl | hl | hl
  · rw [at_app_lt hl] at h; exact .inl ⟨hl, h⟩
  · subst hl; rw [at_app_eq] at h; exact .inr ⟨rfl, h⟩
  · rw [at_app_gt hl] at h; cases h
theorem at_set_eq {H : Heap} {o : Option Ob} {r : Nat} (h : r < H.length) : Heap.at (H.set r o) r = o := by
  simp [Heap.at, List.getD_eq_getElem?_getD, List.getElem?_set_self h]
theorem at_set_ne {H : Heap} {o : Option Ob} {r q : Nat} (h : q ≠ r) : Heap.at (H.set r o) q = H.at q := by
  simp [Heap.at, List.getD_eq_getElem?_getD, List.getElem?_set_ne (Ne.symm h)]
theorem at_set {H : Heap} {o : Option Ob} {r q : Nat} {x : Ob} (h : Heap.at (H.set r o) q = some x) : (q = r ∧ o = some x) ∨ (q ≠ r ∧ H.at q = some x) := by
  by_cases e : q = r
  · subst e
    by_cases hl : q < H.length
    · rw [at_set_eq hl] at h; exact .inl ⟨rfl, h⟩
    · have : q < (H.set q o).length := Heap.at_lt h
      rw [List.length_set] at this; exact absurd this hl
  · rw [at_set_ne e] at h; exact .inr ⟨e, h⟩

/-- one more block -/
theorem push_lt {W : Array Obj} {o : Obj} {b : Nat} (h : b < W.size) : (W.push o)[b]? = W[b]? := by
  rw [Array.getElem?_push, if_neg (by omega)]
theorem push_eq {W : Array Obj} {o : Obj} : (W.push o)[W.size]? = some o := by simp

theorem some_lt {W : Array Obj} {b : Nat} {o : Obj} (h : W[b]? = some o) : b < W.size := by
  rcases Nat.lt_or_ge b W.size with hl | hl
  · exact hl
  · simp [hl] at h
theorem cells_lt {W : Array Obj} {b m : Nat} (h : cellsAt W b = some m) : b < W.size := by
  unfold cellsAt at h
  split at h
  · rename_i he; exact some_lt he
  · cases h

variable [Gh]
theorem HR.lt {β : Nat → Nat} {H : Heap} {W : Array Obj} (h : HR β H W) {r : Nat} (hl : Live H r) : β r < W.size := by
  rcases hl with ⟨cs, hc⟩ | ⟨sz, n, row, hc⟩
  · obtain ⟨vs, e, hw, _⟩ := h.box r cs hc; exact some_lt hw
  · obtain ⟨vs, e, fz, hw, _⟩ := h.arr r sz n row hc; exact some_lt hw

/-- (B') a block that is never written -/
theorem Evo.push {β : Nat → Nat} {H : Heap} {W : Array Obj} (h : HR β H W) (o : Obj) : Evo β H W β H (W.push o) where
  size := by simp
  gh b _ hl := push_lt hl
  imm b hb := ⟨push_lt hb.1, by have := hb.1; simp; omega, hb.2⟩
  len := Nat.le_refl _
  box r as hr := ⟨rfl, as, hr⟩
  arr r sz n row hr := .inr ⟨rfl, ⟨row, .inl hr⟩, cellsAt_congr (push_lt (h.lt (.inr ⟨_, _, _, hr⟩)))⟩
  fro r sz n row hr := ⟨rfl, hr, by obtain ⟨vs, e, fz, hi, _⟩ := h.fro r sz n row hr; exact cellsAt_congr (push_lt hi.1)⟩
  dead _ _ hr := hr
theorem HR.push {β : Nat → Nat} {H : Heap} {W : Array Obj} (h : HR β H W) (o : Obj) : HR β H (W.push o) where
  inj := h.inj
  gh b hb := ⟨by have := (h.gh b hb).1; simp; omega, (h.gh b hb).2⟩
  box r as hr := by
    obtain ⟨vs, e, hw, hs, hl, hR⟩ := h.box r as hr
    exact ⟨vs, e, by rw [push_lt (some_lt hw)]; exact hw, hs, hl, fun j hj => (hR j hj).stays (Evo.push h o)⟩
  arr r sz n row hr := by
    obtain ⟨vs, e, fz, hw, hs, hz, hl, hR⟩ := h.arr r sz n row hr
    exact ⟨vs, e, fz, by rw [push_lt (some_lt hw)]; exact hw, hs, hz, hl, fun i j hi hj => (hR i j hi hj).stays (Evo.push h o)⟩
  fro r sz n row hr := by
    obtain ⟨vs, e, fz, hi, hw, hs, hl, hR⟩ := h.fro r sz n row hr
    exact ⟨vs, e, fz, ((Evo.push h o).imm _ hi).2, by rw [push_lt (some_lt hw)]; exact hw, hs, hl, fun i j hi hj => (hR i j hi hj).stays (Evo.push h o)⟩
theorem imm_new {β : Nat → Nat} {H : Heap} {W : Array Obj} (h : HR β H W) (o : Obj) : Imm β H (W.push o) W.size :=
  ⟨by simp, fun _ hr => Nat.ne_of_lt (h.lt hr), fun hg => Nat.lt_irrefl _ (h.gh _ hg).1⟩

/-- a number more among the objects' places -/
def upd (β : Nat → Nat) (r b : Nat) : Nat → Nat := fun q => if q = r then b else β q
theorem upd_eq {β : Nat → Nat} {r b : Nat} : upd β r b r = b := by simp [upd]
theorem upd_ne {β : Nat → Nat} {r b q : Nat} (h : q ≠ r) : upd β r b q = β q := by simp [upd, h]

theorem live_app {H : Heap} {o : Option Ob} {r : Nat} (h : Live (H ++ [o]) r) : (r < H.length ∧ Live H r) ∨ r = H.length := by
  rcases h with ⟨cs, hc⟩ | ⟨sz, n, row, hc⟩
  · rcases at_app hc with ⟨hl, hc⟩ | ⟨e, _⟩
    · exact .inl ⟨hl, .inl ⟨cs, hc⟩⟩
    · exact .inr e
  · rcases at_app hc with ⟨hl, hc⟩ | ⟨e, _⟩
    · exact .inl ⟨hl, .inr ⟨_, _, _, hc⟩⟩
    · exact .inr e

/-- a new object in a new block -/
theorem Evo.new {β : Nat → Nat} {H : Heap} {W : Array Obj} (h : HR β H W) (o : Obj) (x : Option Ob) : Evo β H W (upd β H.length W.size) (H ++ [x]) (W.push o) where
  size := by simp
  gh b _ hl := push_lt hl
  imm b hb := by
    refine ⟨push_lt hb.1, by have := hb.1; simp; omega, fun r hr => ?_, hb.2.2⟩
    rcases live_app hr with ⟨hl, hr⟩ | rfl
    · rw [upd_ne (by omega)]; exact hb.2.1 r hr
    · rw [upd_eq]; exact Nat.ne_of_gt hb.1
  len := by simp
  box r as hr := by
    have hl := Heap.at_lt hr
    exact ⟨upd_ne (by omega), as, by rw [at_app_lt hl]; exact hr⟩
  arr r sz n row hr := by
    have hl := Heap.at_lt hr
    exact .inr ⟨upd_ne (by omega), ⟨row, .inl (by rw [at_app_lt hl]; exact hr)⟩, cellsAt_congr (push_lt (h.lt (.inr ⟨_, _, _, hr⟩)))⟩
  fro r sz n row hr := by
    have hl := Heap.at_lt hr
    obtain ⟨vs, e, fz, hi, _⟩ := h.fro r sz n row hr
    exact ⟨upd_ne (by omega), by rw [at_app_lt hl]; exact hr, cellsAt_congr (push_lt hi.1)⟩
  dead r hl hr := by rw [at_app_lt hl]; exact hr

theorem HR.newBase {β : Nat → Nat} {H : Heap} {W : Array Obj} (h : HR β H W) (o : Obj) (x : Option Ob) :
    (∀ r r', Live (H ++ [x]) r → Live (H ++ [x]) r' → upd β H.length W.size r = upd β H.length W.size r' → r = r') := by
  intro r r' hr hr' e
  rcases live_app hr with ⟨hl, hr⟩ | rfl <;> rcases live_app hr' with ⟨hl', hr'⟩ | rfl
  · rw [upd_ne (by omega), upd_ne (by omega)] at e; exact h.inj r r' hr hr' e
  · rw [upd_ne (by omega), upd_eq] at e; have := h.lt hr; omega
  · rw [upd_eq, upd_ne (by omega)] at e; have := h.lt hr'; omega
  · rfl

theorem HR.newGh {β : Nat → Nat} {H : Heap} {W : Array Obj} (h : HR β H W) (o : Obj) (x : Option Ob) : ∀ b, Gh.g b → b < (W.push o).size ∧ ∀ r, Live (H ++ [x]) r → upd β H.length W.size r ≠ b := by
  intro b hb
  obtain ⟨h1, h2⟩ := h.gh b hb
  refine ⟨by simp; omega, fun r hr => ?_⟩
  rcases live_app hr with ⟨hl, hr⟩ | rfl
  · rw [upd_ne (by omega)]; exact h2 r hr
  · rw [upd_eq]; omega

theorem HR.new_box {β : Nat → Nat} {H : Heap} {W : Array Obj} (h : HR β H W) (vs : Array Value) (e : TypeId) (as : List AV) (hs : vs.size = as.length) (hl : allLeaf as = true)
    (hR : ∀ j, j < as.length → R β H W (vs.getD j undef) (as.getD j .und)) : HR (upd β H.length W.size) (H ++ [some (.box as)]) (W.push (.cells vs e (0, 0))) where
  inj := h.newBase (.cells vs e (0, 0)) _
  gh := h.newGh _ _
  box r bs hr := by
    rcases at_app hr with ⟨hlt, hr⟩ | ⟨rfl, hx⟩
    · obtain ⟨us, e', hw, h1, h2, h3⟩ := h.box r bs hr
      exact ⟨us, e', by rw [upd_ne (by omega), push_lt (some_lt hw)]; exact hw, h1, h2, fun j hj => (h3 j hj).stays (Evo.new h _ _)⟩
    · cases hx
      exact ⟨vs, e, by rw [upd_eq]; exact push_eq, hs, hl, fun j hj => (hR j hj).stays (Evo.new h _ _)⟩
  arr r sz n row hr := by
    rcases at_app hr with ⟨hlt, hr⟩ | ⟨rfl, hx⟩
    · obtain ⟨us, e', fz, hw, h1, hz, h2, h3⟩ := h.arr r sz n row hr
      exact ⟨us, e', fz, by rw [upd_ne (by omega), push_lt (some_lt hw)]; exact hw, h1, hz, h2, fun i j hi hj => (h3 i j hi hj).stays (Evo.new h _ _)⟩
    · cases hx
  fro r sz n row hr := by
    rcases at_app hr with ⟨hlt, hr⟩ | ⟨rfl, hx⟩
    · obtain ⟨us, e', fz, hi, hw, h1, h2, h3⟩ := h.fro r sz n row hr
      rw [upd_ne (by omega)]
      exact ⟨us, e', fz, ((Evo.new h (.cells vs e (0, 0)) (some (.box as))).imm _ hi).2, by rw [push_lt (some_lt hw)]; exact hw, h1, h2, fun i j hi hj => (h3 i j hi hj).stays (Evo.new h _ _)⟩
    · cases hx

theorem HR.new_arr {β : Nat → Nat} {H : Heap} {W : Array Obj} (h : HR β H W) (vs : Array Value) (e : TypeId) (sz n : Nat) (row : Nat → List AV) (hs : n * sz ≤ vs.size)
    (hl : ∀ i, i < n → (row i).length = sz ∧ allLeaf (row i) = true ∧ pureL (row i) = true)
    (hR : ∀ i j, i < n → j < sz → R β H W (vs.getD (i * sz + j) undef) ((row i).getD j .und)) : HR (upd β H.length W.size) (H ++ [some (.arr sz n row)]) (W.push (.cells vs e (0, 0))) where
  inj := h.newBase (.cells vs e (0, 0)) _
  gh := h.newGh _ _
  box r bs hr := by
    rcases at_app hr with ⟨hlt, hr⟩ | ⟨rfl, hx⟩
    · obtain ⟨us, e', hw, h1, h2, h3⟩ := h.box r bs hr
      exact ⟨us, e', by rw [upd_ne (by omega), push_lt (some_lt hw)]; exact hw, h1, h2, fun j hj => (h3 j hj).stays (Evo.new h _ _)⟩
    · cases hx
  arr r sz' n' row' hr := by
    rcases at_app hr with ⟨hlt, hr⟩ | ⟨rfl, hx⟩
    · obtain ⟨us, e', fz, hw, h1, hz, h2, h3⟩ := h.arr r sz' n' row' hr
      exact ⟨us, e', fz, by rw [upd_ne (by omega), push_lt (some_lt hw)]; exact hw, h1, hz, h2, fun i j hi hj => (h3 i j hi hj).stays (Evo.new h _ _)⟩
    · cases hx
      exact ⟨vs, e, (0, 0), by rw [upd_eq]; exact push_eq, hs, by simp, hl, fun i j hi hj => (hR i j hi hj).stays (Evo.new h _ _)⟩
  fro r sz' n' row' hr := by
    rcases at_app hr with ⟨hlt, hr⟩ | ⟨rfl, hx⟩
    · obtain ⟨us, e', fz, hi, hw, h1, h2, h3⟩ := h.fro r sz' n' row' hr
      rw [upd_ne (by omega)]
      exact ⟨us, e', fz, ((Evo.new h (.cells vs e (0, 0)) (some (.arr sz n row))).imm _ hi).2, by rw [push_lt (some_lt hw)]; exact hw, h1, h2, fun i j hi hj => (h3 i j hi hj).stays (Evo.new h _ _)⟩
    · cases hx
end Go.Ev

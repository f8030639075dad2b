/- The reckoner's operations tell the truth, the third: stores. No conditions. -/
import Derived.Test.YtadbbgechcjciaaEv5
set_option linter.unusedVariables false
set_option linter.unusedSimpArgs false
set_option linter.unusedSectionVars false
namespace Go.Ev
open Go
variable [Gh]

theorem setCell_heap {w : World} {b o : Nat} {cs : Array Value} {e : TypeId} {fz : Nat × Nat} (h : w.heap[b]? = some (.cells cs e fz)) (v : Value) :
    (w.setCell ⟨b, o, none⟩ v).heap[b]? = some (.cells (cs.setIfInBounds o v) e fz) := by
  simp [World.setCell, Array.getElem?_modify, h]
theorem setCell_other {w : World} {b o q : Nat} (h : q ≠ b) (v : Value) : (w.setCell ⟨b, o, none⟩ v).heap[q]? = w.heap[q]? := by
  simp only [World.setCell, Array.getElem?_modify]
  rw [if_neg (by omega)]
theorem setCell_size {w : World} {a : Addr} (v : Value) : (w.setCell a v).heap.size = w.heap.size := by simp [World.setCell]

theorem setCells_heap {b : Nat} {e : TypeId} {fz : Nat × Nat} : ∀ (vs : List Value) (o : Nat) (w : World) (cs : Array Value), w.heap[b]? = some (.cells cs e fz) → o + vs.length ≤ cs.size →
    ∃ cs', (w.setCells b o vs).heap[b]? = some (.cells cs' e fz) ∧ cs'.size = cs.size ∧ (∀ j, j < cs.size → cs'.getD j undef = if o ≤ j ∧ j < o + vs.length then vs.getD (j - o) undef else cs.getD j undef) ∧
      (∀ q, q ≠ b → (w.setCells b o vs).heap[q]? = w.heap[q]?) ∧ (w.setCells b o vs).heap.size = w.heap.size ∧ Same w (w.setCells b o vs)
  | [], o, w, cs, h, hl => ⟨cs, h, rfl, fun j hj => by rw [if_neg (by simp)], fun q hq => rfl, rfl, Same.refl _⟩
  | v :: vs, o, w, cs, h, hl => by
    simp only [List.length_cons] at hl
    obtain ⟨cs', h1, h2, h3, h4, h5, h6⟩ := setCells_heap vs (o + 1) (w.setCell ⟨b, o, none⟩ v) (cs.setIfInBounds o v) (setCell_heap h v) (by simp; omega)
    refine ⟨cs', h1, by simpa using h2, fun j hj => ?_, fun q hq => (h4 q hq).trans (setCell_other hq v), h5.trans (setCell_size v), Same.trans ⟨rfl, rfl, rfl⟩ h6⟩
    rw [h3 j (by simpa using hj)]
    by_cases hjo : j = o
    · subst hjo
      rw [if_neg (by omega), if_pos ⟨by omega, by simp⟩]
      simp [Array.getD_eq_getD_getElem?, hj]
    · by_cases hr : o + 1 ≤ j ∧ j < o + 1 + vs.length
      · rw [if_pos hr, if_pos ⟨by omega, by simp; omega⟩, show j - o = (j - (o + 1)) + 1 by omega]
        simp
      · rw [if_neg hr, if_neg (by simp; omega)]
        simp [Array.getD_eq_getD_getElem?, Array.getElem?_setIfInBounds, Ne.symm hjo]

section
variable {ρ : Type} {P : Program} {o : Oper} {a : Act} {w : World} {Q : Exit → Act → World → Prop} {κ : Option AV → Heap → Option ρ} {x : ρ} {β : Nat → Nat} {H : Heap} {e : List (Option AV)} {c : Ctx}

theorem but_setCells {b : Nat} {et : TypeId} {fz : Nat × Nat} {vs : List Value} {o : Nat} {cs : Array Value} (h : w.heap[b]? = some (.cells cs et fz)) (hl : o + vs.length ≤ cs.size) :
    But b w.heap (w.setCells b o vs).heap := by
  obtain ⟨cs', h1, h2, h3, h4, h5, h6⟩ := setCells_heap vs o w cs h hl
  exact ⟨h5, h4, by rw [cellsAt_of h1, cellsAt_of h, h2]⟩

theorem stCells_len {as vs : List AV} {off : Nat} (h : off + vs.length ≤ as.length) : (stCells as off vs).length = as.length := by
  simp [stCells]; omega
theorem stCells_getD {as vs : List AV} {off j : Nat} (h : off + vs.length ≤ as.length) (hj : j < as.length) :
    (stCells as off vs).getD j .und = if off ≤ j ∧ j < off + vs.length then vs.getD (j - off) .und else as.getD j .und := by
  have ho : off ≤ as.length := by omega
  have lt : (as.take off).length = off := by simp; omega
  have l2 : (as.take off ++ vs).length = off + vs.length := by simp; omega
  unfold stCells
  rw [List.getD_eq_getElem?_getD]
  by_cases h2 : j < off + vs.length
  · rw [List.getElem?_append_left (by omega)]
    by_cases h1 : j < off
    · rw [List.getElem?_append_left (by omega), List.getElem?_take_of_lt h1, if_neg (by omega), List.getD_eq_getElem?_getD]
    · rw [List.getElem?_append_right (by omega), lt, if_pos ⟨by omega, h2⟩, List.getD_eq_getElem?_getD]
  · rw [List.getElem?_append_right (by omega), l2, List.getElem?_drop, if_neg (by omega), show off + vs.length + (j - (off + vs.length)) = j by omega, List.getD_eq_getElem?_getD]
theorem stCells_leaf {as vs : List AV} {off : Nat} (h : allLeaf as = true) (k : allLeaf vs = true) : allLeaf (stCells as off vs) = true := by
  rw [allLeaf_iff] at *
  intro a ha
  simp only [stCells, List.mem_append] at ha
  rcases ha with (ha | ha) | ha
  · exact h a (List.mem_of_mem_take ha)
  · exact k a ha
  · exact h a (List.mem_of_mem_drop ha)
theorem stCells_pure {as vs : List AV} {off : Nat} (h : pureL as = true) (k : pureL vs = true) : pureL (stCells as off vs) = true := by
  rw [pureL_iff] at *
  intro a ha
  simp only [stCells, List.mem_append] at ha
  rcases ha with (ha | ha) | ha
  · exact h a (List.mem_of_mem_take ha)
  · exact k a ha
  · exact h a (List.mem_of_mem_drop ha)

theorem storeVar_run {t : Nat} {ty : Ty} (hT : TyOK P t ty) {b o : Nat} {v : Value} {cs : Array Value} {et : TypeId} {fz : Nat × Nat} (hw : w.heap[b]? = some (.cells cs et fz))
    (hs : v.cells.size = ty.size) (hl : o + ty.size ≤ cs.size) (hz : cs.size ≤ fz.1 + (if fz.1 < fz.2 then 0 else cs.size)) (h1 : ∀ u ∈ v.cells.toList, u.oneCell' = true) :
    (storeVar t ⟨b, o, none⟩ v).run P w = .ok () (w.setCells b o v.cells.toList) := by
  have hst := run_storeCells_cells (P := P) b o v.cells.toList 0 w (fun j hj => by
      rw [cell_of hw, getD_some (by simp at hj; omega)]; rfl)
    (fun j hj => by
      simp only [World.frozen?, hw]
      simp only [Array.length_toList] at hj
      by_cases hlt : fz.1 < fz.2
      · rw [if_pos hlt] at hz
        have : ¬ fz.1 ≤ o + 0 + j := by omega
        rw [decide_eq_false this]; rfl
      · have : ¬ (fz.1 ≤ o + 0 + j ∧ o + 0 + j < fz.2) := by omega
        simpa using this) h1
  simp only [Nat.add_zero] at hst
  simp [storeVar, hT.sizeOf, hs, hst]

theorem op_store (hC : CtxOK c P) {t : Nat} {y z : Operand} (ho : o.op = .store t y z) (hR : HR β H w.heap) (hE : ER β H w.heap a.tmps e)
    (h : opt (opd e y) (fun p => opt (c.opdT t e z) fun v => opt (c.tyOf t) fun ty => storeE H ty p v fun H => κ none H) = some x) : Goal P o a w Q κ x β H := by
  obtain ⟨p, hp, h⟩ := opt_some h
  obtain ⟨v, hv, h⟩ := opt_some h
  obtain ⟨ty, hty, h⟩ := opt_some h
  rw [storeE_eq] at h
  obtain ⟨H', hH', hk⟩ := opt_some h
  have hT := hC.ty t ty hty
  have rp := opd_ok hE hp
  have rv := opdT_ok hE hv
  unfold storeAV at hH'
  simp only at hH'
  split at hH'
  case isFalse => cases hH'
  rename_i hcond
  obtain ⟨hsz, hleaf⟩ := hcond
  obtain ⟨hcs, hcR⟩ := rv.cells hleaf
  have hone := allLeaf_one hleaf hcs hcR
  have hrun : ∀ (b off : Nat), a.eval y = .pointer (some ⟨b, off, none⟩) → ∀ w', (storeVar t ⟨b, off, none⟩ (a.eval z)).run P w = .ok () w' → (execOp a.eval o).run P w = .ok .skip w' := by
    intro b off hb w' hst
    unfold execOp
    rw [ho]
    simp [Instr.storeAt, hb, Instr.sureAddr, hst]
  cases p with
  | ref r off =>
    simp only at hH'
    split at hH'
    · rename_i as hH
      obtain ⟨hle, he⟩ := ite_some hH'
      cases he
      have hb : a.eval y = .pointer (some ⟨β r, off, none⟩) := by
        generalize a.eval y = pv at rp; cases rp; rfl
      obtain ⟨vs, et, hw, hs, hl, hRr⟩ := hR.box r as hH
      have hst := storeVar_run (P := P) (w := w) hT (o := off) (v := a.eval z) hw (by rw [hcs, hsz]) (by omega) (by simp) hone
      obtain ⟨cs', c1, c2, c3, c4, c5, c6⟩ := setCells_heap (a.eval z).cells.toList off w vs hw (by simp; omega)
      have hb2 := but_setCells (w := w) (vs := (a.eval z).cells.toList) (o := off) (cs := vs) hw (by simp; omega)
      refine Goal.skip (HR.set_box hR hH _ hb2 cs' et c1 (by rw [c2, stCells_len hle, hs]) (stCells_leaf hl hleaf) fun j hj => ?_) (Evo.set_box hR hH _ hb2) c6 (hrun _ _ hb _ hst) hk
      rw [stCells_len hle] at hj
      rw [stCells_getD hle hj, c3 j (by omega)]
      simp only [Array.length_toList, hcs]
      by_cases hr : off ≤ j ∧ j < off + v.cells.length
      · rw [if_pos hr, if_pos hr]
        have := hcR (j - off) (by omega)
        simpa [Array.getD_eq_getD_getElem?, List.getD_eq_getElem?_getD] using this
      · rw [if_neg hr, if_neg hr]; exact hRr j hj
    · cases hH'
  | eref r i off =>
    simp only at hH'
    split at hH'
    · rename_i sz n row hH
      obtain ⟨⟨hi, hle, hpu⟩, he⟩ := ite_some hH'
      cases he
      have hb : a.eval y = .pointer (some ⟨β r, i * sz + off, none⟩) := by
        generalize a.eval y = pv at rp
        cases rp with
        | eref r i off sz' N' row' hH2 hi2 =>
          rcases hH2 with h2 | h2 <;> rw [hH] at h2 <;> cases h2
          rfl
        | erefd r i off ad hr hH2 => rw [hH] at hH2; cases hH2
      obtain ⟨vs, et, fz, hw, hs, hz, hl, hRr⟩ := hR.arr r sz n row hH
      obtain ⟨l1, l2, l3⟩ := hl i hi
      have hb1 : i * sz + sz ≤ n * sz := by
        have := Nat.mul_le_mul_right sz (show i + 1 ≤ n by omega)
        rw [Nat.succ_mul] at this; exact this
      have hst := storeVar_run (P := P) (w := w) hT (o := i * sz + off) (v := a.eval z) hw (by rw [hcs, hsz]) (by omega) hz hone
      obtain ⟨cs', c1, c2, c3, c4, c5, c6⟩ := setCells_heap (a.eval z).cells.toList (i * sz + off) w vs hw (by simp; omega)
      have hb2 := but_setCells (w := w) (vs := (a.eval z).cells.toList) (o := i * sz + off) (cs := vs) hw (by simp; omega)
      have hle' : off + v.cells.length ≤ (row i).length := by omega
      refine Goal.skip (HR.set_arr hR hH _ hb2 cs' et fz c1 (by omega) (by rw [c2]; exact hz) (fun j hj => ?_) fun i' j hi' hj => ?_) (Evo.set_arr hR hH _ hb2) c6 (hrun _ _ hb _ hst) hk
      · by_cases hji : j = i
        · subst hji
          simp only [if_true]
          exact ⟨by rw [stCells_len hle']; exact l1, stCells_leaf l2 hleaf, stCells_pure l3 hpu⟩
        · simp only [hji, if_false]; exact hl j hj
      · have hb3 : i' * sz + sz ≤ n * sz := by
          have := Nat.mul_le_mul_right sz (show i' + 1 ≤ n by omega)
          rw [Nat.succ_mul] at this; exact this
        rw [c3 _ (by omega)]
        simp only [Array.length_toList, hcs]
        by_cases hji : i' = i
        · subst hji
          simp only [if_true]
          rw [stCells_getD hle' (by omega)]
          by_cases hr : off ≤ j ∧ j < off + v.cells.length
          · rw [if_pos hr, if_pos (by omega), show i' * sz + j - (i' * sz + off) = j - off by omega]
            have := hcR (j - off) (by omega)
            simpa [Array.getD_eq_getD_getElem?, List.getD_eq_getElem?_getD] using this
          · rw [if_neg hr, if_neg (by omega)]; exact hRr i' j hi' hj
        · simp only [hji, if_false]
          have hno : ¬ (i * sz + off ≤ i' * sz + j ∧ i' * sz + j < i * sz + off + v.cells.length) := by
            rcases Nat.lt_or_gt_of_ne hji with hlt | hgt
            · have := Nat.mul_le_mul_right sz (show i' + 1 ≤ i by omega)
              rw [Nat.succ_mul] at this; omega
            · have := Nat.mul_le_mul_right sz (show i + 1 ≤ i' by omega)
              rw [Nat.succ_mul] at this; omega
          rw [if_neg hno]; exact hRr i' j hi' hj
    · cases hH'
  | _ => cases hH'
end
end Go.Ev

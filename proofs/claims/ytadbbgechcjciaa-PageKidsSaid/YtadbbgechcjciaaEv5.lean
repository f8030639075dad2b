/- The reckoner's operations tell the truth, the second: variables, loads, addresses, parts. No conditions. -/
import Derived.Test.YtadbbgechcjciaaEv4
set_option linter.unusedVariables false
set_option linter.unusedSimpArgs false
set_option linter.unusedSectionVars false
namespace Go.Ev
open Go
variable [Gh]

theorem allLeaf_iff : ∀ {as : List AV}, allLeaf as = true ↔ ∀ a ∈ as, a.leaf = true
  | [] => by simp [allLeaf]
  | a :: as => by simp [allLeaf, allLeaf_iff (as := as)]
theorem pureL_iff : ∀ {as : List AV}, pureL as = true ↔ ∀ a ∈ as, pureA a = true
  | [] => by simp [pureL]
  | a :: as => by simp [pureL, pureL_iff (as := as)]
theorem getD_mem {as : List AV} {j : Nat} (h : j < as.length) : as.getD j .und ∈ as := by
  rw [List.getD_eq_getElem?_getD, List.getElem?_eq_getElem h]; exact List.getElem_mem h
theorem allLeaf_getD {as : List AV} (h : allLeaf as = true) {j : Nat} (hj : j < as.length) : (as.getD j .und).leaf = true := allLeaf_iff.1 h _ (getD_mem hj)
theorem allLeaf_take {as : List AV} (h : allLeaf as = true) (n m : Nat) : allLeaf ((as.drop n).take m) = true :=
  allLeaf_iff.2 fun a ha => allLeaf_iff.1 h a (List.mem_of_mem_drop (List.mem_of_mem_take ha))
theorem getD_cut {as : List AV} {n m j : Nat} (h : j < m) : ((as.drop n).take m).getD j .und = as.getD (n + j) .und := by
  simp [List.getD_eq_getElem?_getD, List.getElem?_take, h, List.getElem?_drop]
theorem leaf_cells {av : AV} (h : av.leaf = true) : av.cells = [av] := by cases av <;> first | rfl | cases h
theorem one_cell {β : Nat → Nat} {H : Heap} {W : Array Obj} {v : Value} {av : AV} (h : R β H W v av) (hl : av.leaf = true) : v.oneCell' = true ∧ v.cells = #[v] := by
  cases h <;> first | exact ⟨rfl, rfl⟩ | cases hl

/-- the cells of a value, one by one -/
theorem R.cells {β : Nat → Nat} {H : Heap} {W : Array Obj} {v : Value} {av : AV} (h : R β H W v av) (hl : allLeaf av.cells = true) :
    v.cells.size = av.cells.length ∧ ∀ j, j < av.cells.length → R β H W (v.cells.getD j undef) (av.cells.getD j .und) := by
  by_cases hg : ∃ cs, av = .agg cs
  · obtain ⟨cs, rfl⟩ := hg
    cases h with
    | agg vs as hv hl' hR => exact ⟨hv, hR⟩
  · have e : av.cells = [av] := by cases av <;> first | rfl | exact absurd ⟨_, rfl⟩ hg
    have hl1 : av.leaf = true := by rw [e] at hl; simpa [allLeaf] using hl
    rw [e, (one_cell h hl1).2]
    refine ⟨rfl, fun j hj => ?_⟩
    have : j = 0 := by simp at hj; omega
    subst this
    exact h
theorem allLeaf_one {as : List AV} (h : allLeaf as = true) {β : Nat → Nat} {H : Heap} {W : Array Obj} {vs : Array Value} (hs : vs.size = as.length) (hR : ∀ j, j < as.length → R β H W (vs.getD j undef) (as.getD j .und)) :
    ∀ v ∈ vs.toList, v.oneCell' = true := by
  intro v hv
  obtain ⟨j, hj, rfl⟩ := List.getElem_of_mem hv
  have hj' : j < as.length := by simpa [hs] using hj
  have := (one_cell (hR j hj') (allLeaf_getD h hj')).1
  have hj2 : j < vs.size := by simpa using hj
  rw [Array.getD_eq_getD_getElem?, Array.getElem?_eq_getElem hj2] at this
  simpa using this

section
variable {P : Program} {w : World} {β : Nat → Nat} {H : Heap} {t : Nat} {ty : Ty}

theorem TyOK.sizeOf (h : TyOK P t ty) : (Go.sizeOf t).run P w = .ok ty.size w := by
  obtain ⟨i, hi, hs, _⟩ := h.info
  simp [Go.sizeOf, typeInfo, hi, hs]
theorem TyOK.under (h : TyOK P t ty) : ∃ d, (underlying t).run P w = .ok d w ∧ P.underlying t = some d := by
  have hd := h.desc
  have key : ∀ d, P.underlying t = some d → (underlying t).run P w = .ok d w := fun d hd => run_underlying hd w
  cases hk : ty.k <;> rw [hk] at hd <;> simp only [TKOK] at hd
  all_goals first
    | exact ⟨_, key _ hd, hd⟩
    | (obtain ⟨f, hf, _⟩ := hd; exact ⟨_, key _ hf, hf⟩)
    | (obtain ⟨x, y, z, hf⟩ := hd; exact ⟨_, key _ hf, hf⟩)
theorem TyOK.isAgg (h : TyOK P t ty) : (Go.isAgg t).run P w = .ok ty.k.agg w := by
  have hd := h.desc
  unfold Go.isAgg
  cases hk : ty.k <;> rw [hk] at hd <;> simp only [TKOK] at hd
  case struct fs => obtain ⟨f, hf, _⟩ := hd; simp [run_underlying hf w, TK.agg]
  case fn => obtain ⟨x, y, z, hf⟩ := hd; simp [run_underlying hf w, TK.agg]
  all_goals simp [run_underlying hd w, TK.agg]

theorem load_ok (hT : TyOK P t ty) {b o off : Nat} {as : List AV} {vf : Nat → Value} (hc : ∀ j, j < as.length → w.cell? ⟨b, o + j, none⟩ = some (vf j))
    (hv : ∀ j, j < as.length → R β H w.heap (vf j) (as.getD j .und)) (hl : allLeaf as = true) {av : AV} (h : ldCells ty as off = some av) :
    ∃ cv, (loadVar t ⟨b, o + off, none⟩).run P w = .ok cv w ∧ R β H w.heap cv av := by
  unfold ldCells at h
  split at h
  · rename_i hg
    obtain ⟨hle, he⟩ := ite_some h
    cases he
    have hcs := run_loadCells_list (P := P) (w := w) ⟨b, o + off, none⟩ ((List.range ty.size).map fun j => vf (off + j)) (fun j v hj => by
      rw [Addr.add_lit]
      simp only [List.getElem?_map] at hj
      by_cases hlt : j < ty.size
      · simp [List.getElem?_range hlt] at hj
        subst hj
        have := hc (off + j) (by omega)
        rw [show o + off + j = o + (off + j) by omega]; exact this
      · simp [List.getElem?_eq_none (by simp; omega : (List.range ty.size).length ≤ j)] at hj)
    simp only [List.length_map, List.length_range] at hcs
    refine ⟨_, by simp [loadVar, hT.isAgg, hg, hT.sizeOf, hcs]; rfl, ?_⟩
    refine .agg _ _ (by simp; omega) (allLeaf_take hl _ _) fun j hj => ?_
    have hj' : j < ty.size := by simp at hj; omega
    rw [getD_cut hj']
    have := hv (off + j) (by omega)
    simpa [Array.getD_eq_getD_getElem?, hj'] using this
  · rename_i hg
    have hlt : off < as.length := by
      rcases Nat.lt_or_ge off as.length with hh | hh
      · exact hh
      · rw [List.getElem?_eq_none hh] at h; cases h
    have e : as.getD off .und = av := by rw [List.getD_eq_getElem?_getD, h]; rfl
    refine ⟨vf off, ?_, e ▸ hv off hlt⟩
    have hg' : ty.k.agg = false := by simpa using hg
    simp [loadVar, hT.isAgg, hg', hc off hlt]
end

section
variable {ρ : Type} {P : Program} {o : Oper} {a : Act} {w : World} {Q : Exit → Act → World → Prop} {κ : Option AV → Heap → Option ρ} {x : ρ} {β : Nat → Nat} {H : Heap} {e : List (Option AV)} {c : Ctx}

theorem cell_of {W : World} {b j : Nat} {cs : Array Value} {t : TypeId} {fz : Nat × Nat} (h : W.heap[b]? = some (.cells cs t fz)) : W.cell? ⟨b, j, none⟩ = cs[j]? := by
  simp [World.cell?, h]
theorem getD_some {vs : Array Value} {j : Nat} (h : j < vs.size) : vs[j]? = some (vs.getD j undef) := by
  rw [Array.getD_eq_getD_getElem?, Array.getElem?_eq_getElem h]; rfl

/-- what a pointer's target holds -/
theorem loadAV_ok (hR : HR β H w.heap) {t : Nat} {ty : Ty} (hT : TyOK P t ty) {pv : Value} {p av : AV} (hp : R β H w.heap pv p) (h : loadAV H ty p = some av) :
    ∃ cv, (Instr.loadAt t pv).run P w = .ok cv w ∧ R β H w.heap cv av := by
  have key : ∀ ad, pv = .pointer (some ad) → (∃ cv, (loadVar t ad).run P w = .ok cv w ∧ R β H w.heap cv av) → ∃ cv, (Instr.loadAt t pv).run P w = .ok cv w ∧ R β H w.heap cv av := by
    rintro ad rfl ⟨cv, h1, h2⟩
    exact ⟨cv, by simpa [Instr.loadAt, Instr.sureAddr] using h1, h2⟩
  cases hp with
  | ref r off cs0 hH =>
    simp only [loadAV, hH] at h
    obtain ⟨vs, et, hw, hs, hl, hv⟩ := hR.box r _ hH
    refine key _ rfl ?_
    have := load_ok (P := P) (w := w) (β := β) (H := H) hT (b := β r) (o := 0) (off := off) (vf := fun j => vs.getD j undef) (fun j hj => by
      rw [cell_of hw, Nat.zero_add]; exact getD_some (by omega)) hv hl h
    simpa using this
  | eref r i off sz N row hH hi =>
    have hrow : rowsOf H r = some (sz, N, row) := by unfold rowsOf; rcases hH with hH | hH <;> rw [hH]
    simp only [loadAV, hrow, hi, if_true] at h
    refine key _ rfl ?_
    have main : ∀ (vs : Array Value) (et : TypeId) (fz : Nat × Nat), w.heap[β r]? = some (.cells vs et fz) → N * sz ≤ vs.size →
        (∀ i, i < N → (row i).length = sz ∧ allLeaf (row i) = true ∧ pureL (row i) = true) → (∀ i j, i < N → j < sz → R β H w.heap (vs.getD (i * sz + j) undef) ((row i).getD j .und)) →
        ∃ cv, (loadVar t ⟨β r, i * sz + off, none⟩).run P w = .ok cv w ∧ R β H w.heap cv av := by
      intro vs et fz hw hs hl hv
      obtain ⟨l1, l2, l3⟩ := hl i hi
      have hb : i * sz + sz ≤ N * sz := by
        have := Nat.mul_le_mul_right sz (show i + 1 ≤ N by omega)
        rw [Nat.succ_mul] at this; exact this
      refine load_ok (P := P) (w := w) (β := β) (H := H) hT (vf := fun j => vs.getD (i * sz + j) undef) (fun j hj => ?_) (fun j hj => hv i j hi (by omega)) l2 h
      rw [cell_of hw]; exact getD_some (by omega)
    rcases hH with hH | hH
    · obtain ⟨vs, et, fz, hw, hs, _, hl, hv⟩ := hR.arr r sz N row hH; exact main vs et fz hw hs hl hv
    · obtain ⟨vs, et, fz, _, hw, hs, hl, hv⟩ := hR.fro r sz N row hH; exact main vs et fz hw hs hl hv
  | erefd r i off ad hr hH =>
    have hrow : rowsOf H r = none := by unfold rowsOf; rw [hH]
    simp only [loadAV, hrow] at h
    cases h
  | rref b o off as cs et fz vf hi hW hl hv hRr =>
    simp only [loadAV] at h
    refine key _ rfl ?_
    exact load_ok (P := P) (w := w) (β := β) (H := H) hT (fun j hj => by rw [cell_of hW]; exact hv j hj) hRr hl.1 h
  | lref b o off as cs et fz vf hi hW hl hv hRr =>
    simp only [loadAV] at h
    refine key _ rfl ?_
    exact load_ok (P := P) (w := w) (β := β) (H := H) hT (fun j hj => by rw [cell_of hW]; exact hv j hj) hRr hl h
  | _ => cases h

theorem op_load (hC : CtxOK c P) {t : Nat} {y : Operand} (ho : o.op = .load t y) (hR : HR β H w.heap) (hE : ER β H w.heap a.tmps e)
    (h : opt (opd e y) (fun p => opt (c.tyOf t) fun ty => loadE H ty p fun v => κ (some v) H) = some x) : Goal P o a w Q κ x β H := by
  obtain ⟨p, hp, h⟩ := opt_some h
  obtain ⟨ty, hty, h⟩ := opt_some h
  rw [loadE_eq] at h
  obtain ⟨av, hav, hk⟩ := opt_some h
  obtain ⟨cv, hrun, hv⟩ := loadAV_ok hR (hC.ty t ty hty) (opd_ok hE hp) hav
  refine Goal.value hR ?_ hv hk
  unfold execOp
  rw [ho]
  simp [hrun]

theorem op_alloc (hC : CtxOK c P) {t : Nat} (ho : o.op = .alloc t) (hR : HR β H w.heap)
    (h : opt (c.tyOf t) (fun ty => κ (some (.ref H.length 0)) (H ++ [some (.box ty.zero)])) = some x) : Goal P o a w Q κ x β H := by
  obtain ⟨ty, hty, hk⟩ := opt_some h
  have hT := hC.ty t ty hty
  obtain ⟨i, hi, hsz, hby, z, hz, hzs, hzR⟩ := hT.info
  have hH' := hR.new_box z.cells t ty.zero (by rw [hzs, hT.len]) hT.leaf (fun j hj => hzR _ _ _ j hj)
  refine Goal.moved (w' := { w with heap := w.heap.push (.cells z.cells t (0, 0)) }) hH' (Evo.new hR _ _) ⟨rfl, rfl, rfl⟩ (cv := .pointer (some ⟨w.heap.size, 0, none⟩)) ?_ ?_ hk
  · unfold execOp
    rw [ho]
    simp [Instr.alloc, zeroValue, typeInfo, hi, hz, newVar, newRow]
  · show R _ _ _ _ _
    have := R.ref (β := upd β H.length w.heap.size) (H := H ++ [some (.box ty.zero)]) (W := w.heap.push (.cells z.cells t (0, 0))) H.length 0 ty.zero at_app_eq
    rw [upd_eq] at this; exact this

theorem op_box {t : Nat} {y : Operand} (ho : o.op = .box t y) (hR : HR β H w.heap) (hE : ER β H w.heap a.tmps e)
    (h : opt (c.opdT t e y) (fun v => if allLeaf v.cells = true then κ (some (.ref H.length 0)) (H ++ [some (.box v.cells)]) else none) = some x) : Goal P o a w Q κ x β H := by
  obtain ⟨v, hv, h⟩ := opt_some h
  obtain ⟨hl, hk⟩ := ite_some h
  obtain ⟨hs, hRc⟩ := (opdT_ok hE hv).cells hl
  have hH' := hR.new_box (a.eval y).cells t v.cells hs hl hRc
  refine Goal.moved (w' := { w with heap := w.heap.push (.cells (a.eval y).cells t (0, 0)) }) hH' (Evo.new hR _ _) ⟨rfl, rfl, rfl⟩ (cv := .pointer (some ⟨w.heap.size, 0, none⟩)) ?_ ?_ hk
  · unfold execOp
    rw [ho]
    simp [Instr.box, newVar, newRow]
  · show R _ _ _ _ _
    have := R.ref (β := upd β H.length w.heap.size) (H := H ++ [some (.box v.cells)]) (W := w.heap.push (.cells (a.eval y).cells t (0, 0))) H.length 0 v.cells at_app_eq
    rw [upd_eq] at this; exact this
end
end Go.Ev

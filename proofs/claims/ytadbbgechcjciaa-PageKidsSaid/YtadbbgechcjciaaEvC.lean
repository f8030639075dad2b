/- The reckoner's operations tell the truth, the eighth: built values, lengths, the greatest and the least. No conditions. -/
import Derived.Test.YtadbbgechcjciaaEvA
set_option linter.unusedVariables false
set_option linter.unusedSimpArgs false
set_option linter.unusedSectionVars false
namespace Go.Ev
open Go
variable [Gh]

/-- cells laid over others -/
theorem splice_list : ∀ (vs : List Value) (n off : Nat) (cs : Array Value), off + n + vs.length ≤ cs.size →
    ((vs.zipIdx n).foldl (fun (cs : Array Value) (p : Value × Nat) => cs.setIfInBounds (off + p.2) p.1) cs).size = cs.size ∧
    ∀ k, k < cs.size → ((vs.zipIdx n).foldl (fun (cs : Array Value) (p : Value × Nat) => cs.setIfInBounds (off + p.2) p.1) cs).getD k undef = if off + n ≤ k ∧ k < off + n + vs.length then vs.getD (k - (off + n)) undef else cs.getD k undef
  | [], n, off, cs, h => ⟨rfl, fun k hk => by rw [if_neg (by simp)]; rfl⟩
  | v :: vs, n, off, cs, h => by
    simp only [List.length_cons] at h
    simp only [List.zipIdx_cons, List.foldl_cons]
    obtain ⟨h1, h2⟩ := splice_list vs (n + 1) off (cs.setIfInBounds (off + n) v) (by simp; omega)
    refine ⟨by rw [h1]; simp, fun k hk => ?_⟩
    rw [h2 k (by simpa using hk)]
    by_cases e : k = off + n
    · subst e
      rw [if_neg (by omega), if_pos ⟨by omega, by simp⟩]
      simp [Array.getD_eq_getD_getElem?, hk]
    · by_cases hr : off + (n + 1) ≤ k ∧ k < off + (n + 1) + vs.length
      · rw [if_pos hr, if_pos ⟨by omega, by simp; omega⟩, show k - (off + n) = (k - (off + (n + 1))) + 1 by omega]
        simp
      · rw [if_neg hr, if_neg (by simp; omega)]
        simp [Array.getD_eq_getD_getElem?, Array.getElem?_setIfInBounds, Ne.symm e]
theorem splice (vs : Array Value) (off : Nat) (cs : Array Value) (h : off + vs.size ≤ cs.size) :
    (vs.zipIdx.foldl (fun cs (c, j) => cs.setIfInBounds (off + j) c) cs).size = cs.size ∧
    ∀ k, k < cs.size → (vs.zipIdx.foldl (fun cs (c, j) => cs.setIfInBounds (off + j) c) cs).getD k undef = if off ≤ k ∧ k < off + vs.size then vs.getD (k - off) undef else cs.getD k undef := by
  have := splice_list vs.toList 0 off cs (by simpa using h)
  rw [← Array.foldl_toList, Array.toList_zipIdx]
  simp only [Nat.add_zero, Array.length_toList] at this
  refine ⟨this.1, fun k hk => ?_⟩
  have h2 := this.2 k hk
  rw [show vs.toList.getD (k - off) undef = vs.getD (k - off) undef by simp [Array.getD_eq_getD_getElem?, List.getD_eq_getElem?_getD]] at h2
  exact h2

section
variable {ρ : Type} {P : Program} {o : Oper} {a : Act} {w : World} {Q : Exit → Act → World → Prop} {κ : Option AV → Heap → Option ρ} {x : ρ} {β : Nat → Nat} {H : Heap} {e : List (Option AV)} {c : Ctx}

/-- cells as told -/
def CR (β : Nat → Nat) (H : Heap) (W : Array Obj) (vs : Array Value) (as : List AV) : Prop := vs.size = as.length ∧ allLeaf as = true ∧ ∀ j, j < as.length → R β H W (vs.getD j undef) (as.getD j .und)

theorem CR.splice {vs us : Array Value} {as bs : List AV} {off : Nat} (h : CR β H w.heap vs as) (hs : us.size = bs.length) (hl : allLeaf bs = true) (hb : ∀ j, j < bs.length → R β H w.heap (us.getD j undef) (bs.getD j .und)) (hle : off + bs.length ≤ as.length) :
    CR β H w.heap (us.zipIdx.foldl (fun cs (c, j) => cs.setIfInBounds (off + j) c) vs) (stCells as off bs) := by
  obtain ⟨h1, h2, h3⟩ := h
  obtain ⟨s1, s2⟩ := Go.Ev.splice us off vs (by omega)
  refine ⟨by rw [s1, stCells_len hle, h1], stCells_leaf h2 hl, fun j hj => ?_⟩
  rw [stCells_len hle] at hj
  rw [s2 j (by omega), stCells_getD hle hj, hs]
  split
  · exact hb _ (by omega)
  · exact h3 j hj

theorem parts_ok (hE : ER β H w.heap a.tmps e) : ∀ {ps : List (Nat × Operand)} {as : List (Nat × AV)}, partsOf e ps = some as →
    ps.map (fun p => p.1) = as.map (fun p => p.1) ∧ ∀ j, j < as.length → ∀ d, R β H w.heap (a.eval ((ps.getD j d).2)) ((as.getD j (0, .und)).2)
  | [], as, h => by cases h; exact ⟨rfl, fun j hj => by simp at hj⟩
  | (i, y) :: ps, as, h => by
    unfold partsOf at h
    split at h
    · rename_i v vs h1 h2
      cases h
      obtain ⟨i1, i2⟩ := parts_ok hE h2
      refine ⟨by simp [i1], fun j hj d => ?_⟩
      cases j with
      | zero => simpa using opd_ok hE h1
      | succ j => simpa using i2 j (by simpa using hj) d
    · cases h

theorem fill_ok {place : Nat → Option (Nat × Nat)} {pl : List (Nat × Nat)} (hpl : ∀ i p, pl[i]? = some p → place i = some p) (hE : ER β H w.heap a.tmps e) :
    ∀ {ps : List (Nat × Operand)} {as : List (Nat × AV)} {vs : Array Value} {cs r : List AV}, partsOf e ps = some as → CR β H w.heap vs cs → fillAV pl cs as = some r →
      ∃ us, Instr.fill place vs (ps.map fun p => (p.1, a.eval p.2)) = some us ∧ CR β H w.heap us r
  | [], as, vs, cs, r, h, hc, hf => by
    cases h
    cases hf
    exact ⟨vs, rfl, hc⟩
  | (i, y) :: ps, as, vs, cs, r, h, hc, hf => by
    unfold partsOf at h
    split at h
    · rename_i v vs' h1 h2
      cases h
      unfold fillAV at hf
      split at hf
      · cases hf
      rename_i off size hp
      split at hf
      case isFalse => cases hf
      rename_i hcond
      obtain ⟨c1, c2, c3⟩ := hcond
      obtain ⟨d1, d2⟩ := (opd_ok hE h1).cells c3
      have hle : off + v.cells.length ≤ cs.length := by omega
      obtain ⟨us, hu1, hu2⟩ := fill_ok hpl hE h2 (hc.splice d1 c3 d2 hle) hf
      refine ⟨us, ?_, hu2⟩
      simp only [List.map_cons, Instr.fill, hpl _ _ hp]
      rw [if_neg (by have := hc.1; simp; omega)]
      exact hu1
    · cases h

theorem places_ok (hC : CtxOK c P) : ∀ {fs : List (Nat × Nat)} {ps : List (Nat × Nat)}, c.places fs = some ps → ∀ {fields : List Field}, fields.map (fun f => (f.offset, f.type)) = fs →
    (fields.mapM (fun f => do pure (f.offset, ← Go.sizeOf f.type) : Field → Sem (Nat × Nat))).run P w = .ok ps w
  | [], ps, h, fields, hf => by
    cases h
    have : fields = [] := by simpa using hf
    subst this
    simp
  | (off, t) :: fs, ps, h, fields, hf => by
    cases fields with
    | nil => simp at hf
    | cons f fields =>
      simp only [List.map_cons, List.cons.injEq, Prod.mk.injEq] at hf
      obtain ⟨⟨e1, e2⟩, e3⟩ := hf
      unfold Ctx.places at h
      split at h
      · rename_i ty ps' h1 h2
        cases h
        have ih := places_ok hC h2 e3
        have hT := hC.ty t ty h1
        simp only [List.mapM_cons, Sem.run_bind, e2, hT.sizeOf, Result.andThen_ok, Sem.run_pure, ih, e1]
      · cases h

theorem op_build (hC : CtxOK c P) {t : Nat} {parts : Array (Nat × Operand)} (ho : o.op = .build t parts) (hR : HR β H w.heap) (hE : ER β H w.heap a.tmps e)
    (h : opt (partsOf e parts.toList) (fun ps => opt (buildAV c t ps) fun v => κ (some v) H) = some x) : Goal P o a w Q κ x β H := by
  obtain ⟨ps, hps, h1⟩ := opt_some h
  obtain ⟨v, hv, hk⟩ := opt_some h1
  unfold buildAV at hv
  split at hv
  case h_2 => cases hv
  rename_i ty hty
  have hT := hC.ty t ty hty
  obtain ⟨i, hi, hsz, hby, z, hz, hzs, hzR⟩ := hT.info
  have hzero : (zeroValue t).run P w = .ok z w := by simp [zeroValue, typeInfo, hi, hz]
  have hcr : CR β H w.heap z.cells ty.zero := ⟨by rw [hzs, hT.len], hT.leaf, fun j hj => hzR _ _ _ j hj⟩
  split at hv
  · rename_i fs hk'
    split at hv
    case h_2 => cases hv
    rename_i pl hpl
    cases hf : fillAV pl ty.zero ps with
    | none => rw [hf] at hv; cases hv
    | some r =>
      rw [hf] at hv; cases hv
      have hd := hT.desc
      rw [hk'] at hd
      obtain ⟨fields, hu, hm⟩ := hd
      have hpr := places_ok (w := w) hC hpl hm
      obtain ⟨us, hu1, hu2⟩ := fill_ok (place := (pl.toArray[·]?)) (fun i p hp => by simpa using hp) hE hps hcr hf
      refine Goal.value hR (cv := .agg us) ?_ (.agg us r hu2.1 hu2.2.1 hu2.2.2) hk
      unfold execOp
      rw [ho]
      have hfm : (fields.mapM (fun f => do pure (f.offset, ← Go.sizeOf f.type) : Field → Sem (Nat × Nat))).run P w = .ok pl.toArray w := by
        rw [← Array.toArray_toList (xs := fields), List.mapM_toArray, Sem.run_map, hpr]
        rfl
      simp only [Instr.build, Sem.run_bind, hzero, Result.andThen_ok, run_underlying hu w, hfm, Array.toList_map]
      rw [hu1]
      rfl
  · rename_i n et hk'
    split at hv
    case h_2 => cases hv
    rename_i ey hey
    have hTe := hC.ty et ey hey
    cases hf : fillAV ((List.range n).map fun i => (i * ey.size, ey.size)) ty.zero ps with
    | none => rw [hf] at hv; cases hv
    | some r =>
      rw [hf] at hv; cases hv
      have hd := hT.desc
      rw [hk'] at hd
      have hu : P.underlying t = some (.array n et) := hd
      obtain ⟨us, hu1, hu2⟩ := fill_ok (place := fun i => some (i * ey.size, ey.size)) (fun i p hp => by
        simp only [List.getElem?_map] at hp
        by_cases hlt : i < n
        · simpa [List.getElem?_range hlt] using hp
        · rw [List.getElem?_eq_none (by simpa using hlt)] at hp; cases hp) hE hps hcr hf
      refine Goal.value hR (cv := .agg us) ?_ (.agg us r hu2.1 hu2.2.1 hu2.2.2) hk
      unfold execOp
      rw [ho]
      simp only [Instr.build, Sem.run_bind, hzero, Result.andThen_ok, run_underlying hu w, hTe.sizeOf, Array.toList_map]
      rw [hu1]
      rfl
  · cases hv
end
end Go.Ev

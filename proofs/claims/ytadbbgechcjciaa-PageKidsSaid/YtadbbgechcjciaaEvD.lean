/- The reckoner's operations tell the truth, the ninth: literals of rows, new rows, rows behind rows. No conditions. -/
import Derived.Test.YtadbbgechcjciaaEvC
import Derived.Laws.MakeOwn
set_option linter.unusedVariables false
set_option linter.unusedSimpArgs false
set_option linter.unusedSectionVars false
namespace Go.Ev
open Go
variable [Gh]

section
variable {ρ : Type} {P : Program} {o : Oper} {a : Act} {w : World} {Q : Exit → Act → World → Prop} {κ : Option AV → Heap → Option ρ} {x : ρ} {β : Nat → Nat} {H : Heap} {e : List (Option AV)} {c : Ctx}

/-- rows of cells, as told -/
def RR (β : Nat → Nat) (H : Heap) (W : Array Obj) (sz n : Nat) (vs : Array Value) (row : Nat → List AV) : Prop :=
  (∀ i, i < n → (row i).length = sz ∧ allLeaf (row i) = true ∧ pureL (row i) = true) ∧ ∀ i j, i < n → j < sz → R β H W (vs.getD (i * sz + j) undef) ((row i).getD j .und)

theorem row_in {i n sz : Nat} (h : i < n) : i * sz + sz ≤ n * sz := by
  have := Nat.mul_le_mul_right sz (show i + 1 ≤ n by omega)
  rw [Nat.succ_mul] at this; exact this
theorem row_apart {i i' j j' sz : Nat} (h : i ≠ i') (hj : j < sz) (hj' : j' < sz) : i * sz + j ≠ i' * sz + j' := by
  rcases Nat.lt_or_gt_of_ne h with hlt | hlt
  · have := row_in (sz := sz) hlt; omega
  · have := row_in (sz := sz) hlt; omega

theorem lit_ok {size : Nat} {z0 : List AV} (hE : ER β H w.heap a.tmps e) : ∀ {ps : List (Nat × Operand)} {as : List (Nat × AV)} {vs : Array Value} {rows rows' : List (List AV)}, partsOf e ps = some as → vs.size = rows.length * size →
    RR β H w.heap size rows.length vs (fun i => rows.getD i z0) → litRows size rows as = some rows' →
      ∃ us, Instr.fill (fun i => some (i * size, size)) vs (ps.map fun p => (p.1, a.eval p.2)) = some us ∧ us.size = rows'.length * size ∧ rows'.length = rows.length ∧ RR β H w.heap size rows'.length us (fun i => rows'.getD i z0)
  | [], as, vs, rows, rows', h, hs, hr, hl => by
    cases h; cases hl
    exact ⟨vs, rfl, hs, rfl, hr⟩
  | (i, y) :: ps, as, vs, rows, rows', h, hs, hr, hl => by
    unfold partsOf at h
    split at h
    · rename_i v vs' h1 h2
      cases h
      unfold litRows at hl
      split at hl
      case isFalse => cases hl
      rename_i hcond
      obtain ⟨c1, c2, c3, c4⟩ := hcond
      obtain ⟨d1, d2⟩ := (opd_ok hE h1).cells c3
      have hin := row_in (sz := size) c2
      obtain ⟨s1, s2⟩ := Go.Ev.splice (a.eval y).cells (i * size) vs (by omega)
      have hnew : RR β H w.heap size (rows.set i v.cells).length ((a.eval y).cells.zipIdx.foldl (fun cs (c, j) => cs.setIfInBounds (i * size + j) c) vs) (fun k => (rows.set i v.cells).getD k z0) := by
        rw [List.length_set]
        refine ⟨fun k hk => ?_, fun k j hk hj => ?_⟩
        · by_cases e' : k = i
          · subst e'
            simp only [List.getD_eq_getElem?_getD, List.getElem?_set_self c2, Option.getD_some]
            exact ⟨c1, c3, c4⟩
          · simp only [List.getD_eq_getElem?_getD, List.getElem?_set_ne (Ne.symm e')]
            have := hr.1 k hk
            simpa [List.getD_eq_getElem?_getD] using this
        · have hk' := row_in (sz := size) hk
          rw [s2 _ (by omega)]
          by_cases e' : k = i
          · subst e'
            rw [if_pos (by omega), show k * size + j - k * size = j by omega]
            simp only [List.getD_eq_getElem?_getD, List.getElem?_set_self c2, Option.getD_some]
            have := d2 j (by omega)
            simpa [List.getD_eq_getElem?_getD] using this
          · have hno : ¬ (i * size ≤ k * size + j ∧ k * size + j < i * size + (a.eval y).cells.size) := by
              rcases Nat.lt_or_gt_of_ne e' with hlt | hlt
              · have := row_in (sz := size) hlt; omega
              · have := row_in (sz := size) hlt; omega
            rw [if_neg hno]
            have := hr.2 k j hk hj
            simp only [List.getD_eq_getElem?_getD, List.getElem?_set_ne (Ne.symm e')]
            simpa [List.getD_eq_getElem?_getD] using this
      obtain ⟨us, u1, u2, u3, u4⟩ := lit_ok hE h2 (by rw [s1, hs, List.length_set]) hnew hl
      refine ⟨us, ?_, u2, by rw [u3, List.length_set], u4⟩
      simp only [List.map_cons, Instr.fill]
      rw [if_neg (by simp; omega)]
      exact u1
    · cases h

theorem zeros_rows {t : Nat} {ty : Ty} (hT : TyOK P t ty) {i : TypeInfo} {z : Value} (hzs : z.cells.size = ty.size) (hzR : ∀ β H W j, j < ty.zero.length → R β H W (z.cells.getD j undef) (ty.zero.getD j .und)) (n : Nat) (W : Array Obj) :
    RR β H W ty.size n ((Array.range (n * ty.size)).map (z.cells[· % z.cells.size]!)) (fun _ => ty.zero) := by
  refine ⟨fun i hi => ⟨hT.len, hT.leaf, hT.pure⟩, fun i j hi hj => ?_⟩
  have hin := row_in (sz := ty.size) hi
  have hlt : i * ty.size + j < n * ty.size := by omega
  have hmod : (i * ty.size + j) % ty.size = j := by rw [Nat.mul_comm, Nat.mul_add_mod]; exact Nat.mod_eq_of_lt hj
  have := hzR β H W j (by rw [hT.len]; exact hj)
  rw [Array.getD_eq_getD_getElem?, Array.getElem?_map, Array.getElem?_range, if_pos hlt]
  simp only [Option.map_some, Option.getD_some, hzs, hmod]
  have hj' : j < z.cells.size := by omega
  rw [getElem!_pos z.cells j hj']
  rw [Array.getD_eq_getD_getElem?, Array.getElem?_eq_getElem hj'] at this
  exact this

theorem rows_slice (hR : HR β H w.heap) {et sz n cap : Nat} {vs : Array Value} {row : Nat → List AV} {full : Bool} (hn : n ≤ cap) (hf : full = true → cap = n) (hs : n * sz ≤ vs.size) (h : RR β H w.heap sz n vs row) (fz : Nat × Nat) :
    R β H (w.heap.push (.cells vs et fz)) (.slice (some ⟨w.heap.size, 0, none⟩) n cap) (.sl sz n row full) := by
  refine .sl w.heap.size 0 n cap sz row full vs et fz (fun i j => vs.getD (i * sz + j) undef) (imm_new hR _) push_eq hn hf h.1 (fun i j hi hj => ?_) fun i j hi hj => (h.2 i j hi hj).stays (Evo.push hR _)
  have := row_in (sz := sz) hi
  rw [Nat.zero_add]
  exact getD_some (by omega)

theorem ite_none {ρ : Type} {p : Prop} [Decidable p] {A : Option ρ} {r : ρ} (h : (if p then none else A) = some r) : ¬ p ∧ A = some r := by
  split at h
  · cases h
  · rename_i hp; exact ⟨hp, h⟩
theorem fill_len {pl : List (Nat × Nat)} : ∀ {ps : List (Nat × AV)} {as r : List AV}, fillAV pl as ps = some r → r.length = as.length
  | [], as, r, h => by cases h; rfl
  | (i, v) :: ps, as, r, h => by
    unfold fillAV at h
    split at h
    · cases h
    · obtain ⟨hc, h2⟩ := ite_some h
      rw [fill_len h2, stCells_len (by omega)]
theorem rep_len {z : List AV} : ∀ n, (rep n z).length = n * z.length
  | 0 => by simp [rep]
  | n + 1 => by simp [rep, rep_len n, Nat.succ_mul, Nat.add_comm]
theorem rep_leaf {z : List AV} (h : allLeaf z = true) : ∀ n, allLeaf (rep n z) = true
  | 0 => rfl
  | n + 1 => by
    rw [allLeaf_iff]
    intro x hx
    simp only [rep, List.mem_append] at hx
    rcases hx with hx | hx
    · exact allLeaf_iff.1 h x hx
    · exact allLeaf_iff.1 (rep_leaf h n) x hx
theorem rep_get {z : List AV} : ∀ n i j, i < n → j < z.length → (rep n z).getD (i * z.length + j) .und = z.getD j .und
  | 0, i, j, h, _ => by omega
  | n + 1, 0, j, h, hj => by
    simp only [rep, Nat.zero_mul, Nat.zero_add, List.getD_eq_getElem?_getD]
    rw [List.getElem?_append_left hj]
  | n + 1, i + 1, j, h, hj => by
    have := rep_get (z := z) n i j (by omega) hj
    simp only [rep, List.getD_eq_getElem?_getD] at this ⊢
    rw [List.getElem?_append_right (by rw [Nat.succ_mul]; omega), show (i + 1) * z.length + j - z.length = i * z.length + j by rw [Nat.succ_mul]; omega]
    exact this
theorem zeros_cells {vs : Array Value} {z : List AV} {n : Nat} (hs : vs.size = n * z.length) (hl : allLeaf z = true) (h : RR β H w.heap z.length n vs (fun _ => z)) : CR β H w.heap vs (rep n z) := by
  refine ⟨by rw [hs, rep_len], rep_leaf hl n, fun j hj => ?_⟩
  rw [rep_len] at hj
  have hz : 0 < z.length := by
    rcases Nat.eq_zero_or_pos z.length with h0 | h0
    · rw [h0] at hj; omega
    · exact h0
  have e : j = j / z.length * z.length + j % z.length := by rw [Nat.mul_comm]; exact (Nat.div_add_mod j _).symm
  have h1 : j / z.length < n := Nat.div_lt_of_lt_mul (by rw [Nat.mul_comm]; exact hj)
  have h2 : j % z.length < z.length := Nat.mod_lt _ hz
  rw [e, rep_get n _ _ h1 h2]
  exact h.2 _ _ h1 h2

theorem op_buildSlice (hC : CtxOK c P) {t n : Nat} {parts : Array (Nat × Operand)} (ho : o.op = .buildSlice t n parts) (hR : HR β H w.heap) (hE : ER β H w.heap a.tmps e)
    (h : (match c.tyOf t with
    | some ⟨.slice et, _, _, _, _⟩ => opt (c.tyOf et) fun ey => opt (partsOf e parts.toList) fun ps => if n * ey.size ≤ 16777216 then opt (litAV ey.size n ey.zero ps) (fun v => κ (some v) H) else none
    | _ => none) = some x) : Goal P o a w Q κ x β H := by
  split at h
  case h_2 => cases h
  rename_i et z1 z2 z3 z4 hty
  obtain ⟨ey, hey, h1⟩ := opt_some h
  obtain ⟨ps, hps, h2⟩ := opt_some h1
  obtain ⟨hroom, h3⟩ := ite_some h2
  have hu : P.underlying t = some (.slice et) := (hC.ty t _ hty).desc
  have hT := hC.ty et ey hey
  obtain ⟨i, hi, hsz, hby, z, hz, hzs, hzR⟩ := hT.info
  have hzero : (zeroValue et).run P w = .ok z w := by simp [zeroValue, typeInfo, hi, hz]
  have hz0 := zeros_rows (β := β) (H := H) hT (i := i) hzs hzR n w.heap
  have hng : ¬ (n * ey.size > 2 ^ 24) := by omega
  have run : ∀ us, Instr.fill (fun i => some (i * ey.size, ey.size)) ((Array.range (n * ey.size)).map (z.cells[· % z.cells.size]!)) (parts.toList.map fun p => (p.1, a.eval p.2)) = some us →
      (execOp a.eval o).run P w = .ok (.value (.slice (some ⟨w.heap.size, 0, none⟩) n n)) { w with heap := w.heap.push (.cells us et (0, 0)) } := by
    intro us u1
    unfold execOp
    rw [ho]
    by_cases h0 : n * ey.size = 0
    · have e0 : (Array.range (n * ey.size)).map (fun x => (#[] : Array Value)[x % (#[] : Array Value).size]!) = (Array.range (n * ey.size)).map (z.cells[· % z.cells.size]!) := by rw [h0]; simp
      simp only [Instr.buildSlice, Sem.run_bind, run_underlying hu w, Result.andThen_ok, hT.sizeOf, if_neg hng, Sem.run_pure, Array.toList_map, if_pos h0, Sem.run_ite, e0, u1]
      rfl
    · simp only [Instr.buildSlice, Sem.run_bind, run_underlying hu w, Result.andThen_ok, hT.sizeOf, if_neg hng, Sem.run_pure, Array.toList_map, if_neg h0, Sem.run_ite, hzero, u1]
      rfl
  obtain ⟨lv, hlv, hk⟩ := opt_some h3
  unfold litAV at hlv
  split at hlv
  · rename_i rows hrows
    cases hlv
    obtain ⟨us, u1, u2, u3, u4⟩ := lit_ok (β := β) (H := H) (w := w) (z0 := ey.zero) hE hps (vs := (Array.range (n * ey.size)).map (z.cells[· % z.cells.size]!)) (by simp) (by
      rw [List.length_replicate]
      refine ⟨fun k hk => ?_, fun k j hk hj => ?_⟩
      · simp only [List.getD_eq_getElem?_getD, List.getElem?_replicate, hk, if_true, Option.getD_some]
        exact hz0.1 k hk
      · have := hz0.2 k j hk hj
        simp only [List.getD_eq_getElem?_getD, List.getElem?_replicate, hk, if_true, Option.getD_some]
        simpa [List.getD_eq_getElem?_getD] using this) hrows
    have hln : rows.length = n := by rw [u3]; simp
    rw [hln] at u2 u4
    exact Goal.moved (w' := { w with heap := w.heap.push (.cells us et (0, 0)) }) (ov := some _) (hR.push _) (Evo.push hR _) ⟨rfl, rfl, rfl⟩ (cv := .slice (some ⟨w.heap.size, 0, none⟩) n n) (run us u1) (rows_slice hR (Nat.le_refl _) (fun _ => rfl) (by omega) u4 (0, 0)) hk
  · obtain ⟨hne, h4⟩ := ite_none hlv
    obtain ⟨cs, hcs, hcl⟩ : ∃ cs, fillAV ((List.range n).map fun i => (i * ey.size, ey.size)) (rep n ey.zero) ps = some cs ∧ AV.lsl ey.size n cs = lv := by
      cases hq : fillAV ((List.range n).map fun i => (i * ey.size, ey.size)) (rep n ey.zero) ps with
      | none => rw [hq] at h4; cases h4
      | some cs => rw [hq] at h4; exact ⟨cs, rfl, Option.some.inj h4⟩
    subst hcl
    obtain ⟨us, u1, u2, u3, u4⟩ := fill_ok (β := β) (H := H) (w := w) (place := fun i => some (i * ey.size, ey.size)) (pl := (List.range n).map fun i => (i * ey.size, ey.size)) (fun i p hp => by
      simp only [List.getElem?_map] at hp
      cases hr : (List.range n)[i]? with
      | none => rw [hr] at hp; cases hp
      | some k =>
        rw [hr] at hp
        have hk' := List.getElem?_eq_some_iff.1 hr
        obtain ⟨q1, q2⟩ := hk'
        rw [List.getElem_range] at q2
        subst q2
        exact hp) hE hps (zeros_cells (β := β) (H := H) (w := w) (n := n) (z := ey.zero) (vs := (Array.range (n * ey.size)).map (z.cells[· % z.cells.size]!)) (by rw [hT.len]; simp) hT.leaf (by rw [hT.len]; exact hz0)) hcs
    have hlen : cs.length = n * ey.size := by
      have := fill_len hcs
      rw [rep_len, hT.len] at this
      exact this
    refine Goal.moved (w' := { w with heap := w.heap.push (.cells us et (0, 0)) }) (ov := some _) (hR.push _) (Evo.push hR _) ⟨rfl, rfl, rfl⟩ (cv := .slice (some ⟨w.heap.size, 0, none⟩) n n) (run us u1) ?_ hk
    exact .lsl w.heap.size 0 n ey.size cs us et (0, 0) (fun j => us.getD j undef) (imm_new hR _) push_eq u3 hlen (fun j hj => by rw [Nat.zero_add]; exact getD_some (by omega)) fun j hj => (u4 j hj).stays (Evo.push hR _)

theorem roomOf_iff {n b : Nat} (h : roomOf n b = true) : n * b ≤ 70368744177664 ∧ n ≤ 70368744177664 := by
  simpa [roomOf] using h
theorem wrap_small {n : Nat} (h : n ≤ 70368744177664) : IntKind.i64.wrap (n : Int) = n := by
  rw [IntKind.wrap_i64]
  omega

theorem arr_slice (hR : HR β H w.heap) {et sz n N cap : Nat} {vs : Array Value} {row : Nat → List AV} {full : Bool} (hn : n ≤ N) (hN : N ≤ cap) (hf : full = true → cap = n) (hs : cap * sz ≤ vs.size) :
    R (upd β H.length w.heap.size) (H ++ [some (.arr sz N row)]) (w.heap.push (.cells vs et (0, 0))) (.slice (some ⟨w.heap.size, 0, none⟩) n cap) (.osl sz H.length 0 n full) := by
  refine .osl H.length 0 n cap sz N vs.size row full _ (fun _ => by rw [upd_eq, Nat.zero_mul]) (.inl at_app_eq) (by rw [upd_eq]; exact cellsAt_of push_eq) (by omega) (by omega) hf (by rw [Nat.zero_add]; exact hs) (fun _ => by omega)

theorem op_makeSlice (hC : CtxOK c P) {t : Nat} {y z : Operand} (ho : o.op = .makeSlice t y z) (hR : HR β H w.heap) (hE : ER β H w.heap a.tmps e)
    (h : opt (opd e y) (fun u => opt (opd e z) fun v => match c.tyOf t, u, v with
    | some ⟨.slice et, _, _, _, _⟩, .int .i64 l, .int .i64 m => opt (c.tyOf et) fun ey =>
      bif decide (0 ≤ l) && (decide (l = m) && roomOf l.toNat ey.bytes) then κ (some (.osl ey.size H.length 0 l.toNat true)) (H ++ [some (.arr ey.size l.toNat fun _ => ey.zero)]) else none
    | _, _, _ => none) = some x) : Goal P o a w Q κ x β H := by
  obtain ⟨u, hu, h1⟩ := opt_some h
  obtain ⟨v, hv, h2⟩ := opt_some h1
  clear h h1
  split at h2
  case h_2 => cases h2
  rename_i et z1 z2 z3 z4 l m hty
  obtain ⟨ey, hey, h3⟩ := opt_some h2
  obtain ⟨hb, hk⟩ := bif_some h3
  simp only [Bool.and_eq_true, decide_eq_true_eq] at hb
  obtain ⟨h0, rfl, hroom⟩ := hb
  obtain ⟨r1, r2⟩ := roomOf_iff hroom
  obtain ⟨n, rfl⟩ := Int.eq_ofNat_of_zero_le h0
  simp only [Int.toNat_natCast] at *
  have hu' : P.underlying t = some (.slice et) := (hC.ty t _ hty).desc
  have hT := hC.ty et ey hey
  obtain ⟨i, hi, hsz, hby, z', hz, hzs, hzR⟩ := hT.info
  have hzero : (zeroValue et).run P w = .ok z' w := by simp [zeroValue, typeInfo, hi, hz]
  have eu := (opd_ok hE hu).inv_int
  have ev := (opd_ok hE hv).inv_int
  have hz0 := zeros_rows (β := β) (H := H) hT (i := i) hzs hzR n w.heap
  have hbig : (i.bytes : Int) * (n : Int) ≤ 281474976710656 := by
    have : ((i.bytes : Int) * (n : Int)) = ((n * ey.bytes : Nat) : Int) := by rw [hby, Nat.mul_comm]; simp
    rw [this]; omega
  have hrun := run_make (P := P) w t et i z' hu' hi hz .i64 .i64 n n (by omega) (Int.le_refl _) hbig (by omega)
  simp only [Int.toNat_natCast, hsz] at hrun
  refine Goal.moved (ov := some _) (HR.new_arr hR (madeCells z'.cells (n * ey.size)) et ey.size n _ (by simp [madeCells]) hz0.1 hz0.2) (Evo.new hR _ _) ⟨rfl, rfl, rfl⟩
    (cv := .slice (some ⟨w.heap.size, 0, none⟩) n n) (w' := { w with heap := w.heap.push (.cells (madeCells z'.cells (n * ey.size)) et (0, 0)) }) ?_ (arr_slice hR (Nat.le_refl _) (Nat.le_refl _) (fun _ => rfl) (by simp [madeCells])) hk
  unfold execOp
  rw [ho]
  simp only [Sem.run_bind, eu, ev]
  rw [hrun]
  rfl
end
end Go.Ev

/- The reckoner's operations tell the truth, the seventh: conversions and lengths. No conditions. -/
import Derived.Test.YtadbbgechcjciaaEv9
import Derived.Laws.BytesString
set_option linter.unusedVariables false
set_option linter.unusedSimpArgs false
set_option linter.unusedSectionVars false
namespace Go.Ev
open Go
variable [Gh]

theorem modify_push {W : Array Obj} {o : Obj} (f : Obj → Obj) : (W.push o).modify W.size f = W.push (f o) := by
  apply Array.ext_getElem?
  intro i
  rw [Array.getElem?_modify]
  by_cases h : W.size = i
  · subst h; simp
  · rw [if_neg h]
    simp only [Array.getElem?_push]
    rw [if_neg (by omega), if_neg (by omega)]

theorem foldl_push (ns : List Int) : ∀ r : ByteArray, ns.foldl (fun r n => r.push (UInt8.ofNat n.toNat)) r = ⟨(r.data.toList ++ ns.map fun n => UInt8.ofNat n.toNat).toArray⟩ := by
  induction ns with
  | nil => intro r; simp
  | cons n ns ih =>
    intro r
    simp only [List.foldl_cons, ih]
    congr 1
    apply Array.ext'
    simp [ByteArray.push]

theorem isU8_of {row : Nat → List AV} : ∀ {n : Nat}, allU8 row n = true → ∀ i, i < n → ∃ m, row i = [.int .u8 m]
  | 0, _, i, hi => by omega
  | n + 1, h, i, hi => by
    simp only [allU8, Bool.and_eq_true] at h
    by_cases e : i = n
    · subst e
      have := h.2
      unfold isU8 at this
      split at this
      · rename_i m hm; exact ⟨m, hm⟩
      · cases this
    · exact isU8_of h.1 i (by omega)

section
variable {ρ : Type} {P : Program} {o : Oper} {a : Act} {w : World} {Q : Exit → Act → World → Prop} {κ : Option AV → Heap → Option ρ} {x : ρ} {β : Nat → Nat} {H : Heap} {e : List (Option AV)} {c : Ctx}

/-- what a slice's cells hold -/
theorem src_cells (hR : HR β H w.heap) {u : AV} {v : Value} (hu : R β H w.heap v u) {sz n : Nat} {row : Nat → List AV} (h : srcOf H u = some (sz, n, row)) (hs : ∀ s, u ≠ .str s) :
    ∃ (ad : Option Addr) (cap : Nat) (vf : Nat → Nat → Value), v = .slice ad n cap ∧ (0 < n → ad.isSome = true) ∧ (∀ bb, ad = some bb → ∀ i j, i < n → j < sz → w.cell? (bb.add (i * sz + j)) = some (vf i j)) ∧
      (∀ i, i < n → (row i).length = sz ∧ allLeaf (row i) = true ∧ pureL (row i) = true) ∧ (∀ i j, i < n → j < sz → R β H w.heap (vf i j) ((row i).getD j .und)) := by
  cases hu with
  | sl0 ad c' sz' row' full hf =>
    simp only [srcOf, Option.some.injEq, Prod.mk.injEq] at h
    obtain ⟨rfl, rfl, rfl⟩ := h
    exact ⟨ad, c', fun _ _ => undef, rfl, fun h => absurd h (by omega), fun _ _ i j hi => absurd hi (by omega), fun i hi => absurd hi (by omega), fun i j hi => absurd hi (by omega)⟩
  | sl b o' n' c' sz' row' full cs et fz vf hi hW hc hf hl hv hRr =>
    simp only [srcOf, Option.some.injEq, Prod.mk.injEq] at h
    obtain ⟨rfl, rfl, rfl⟩ := h
    refine ⟨_, c', vf, rfl, fun _ => rfl, fun bb hbb i j hi hj => ?_, hl, hRr⟩
    cases hbb
    rw [Addr.add_lit, cell_of hW, ← Nat.add_assoc]
    exact hv i j hi hj
  | osl r off len c' sz' N m row' full ad ha hH hW hn hc hf hs' hu' =>
    have hrow : rowsOf H r = some (sz', N, row') := by unfold rowsOf; rcases hH with hH | hH <;> rw [hH]
    simp only [srcOf, hrow, Option.some.injEq, Prod.mk.injEq] at h
    obtain ⟨rfl, rfl, rfl⟩ := h
    have main : ∀ (vs : Array Value) (et : TypeId) (fz : Nat × Nat), w.heap[β r]? = some (.cells vs et fz) → N * sz' ≤ vs.size →
        (∀ i, i < N → (row' i).length = sz' ∧ allLeaf (row' i) = true ∧ pureL (row' i) = true) → (∀ i j, i < N → j < sz' → R β H w.heap (vs.getD (i * sz' + j) undef) ((row' i).getD j .und)) →
        ∃ (ad' : Option Addr) (cap : Nat) (vf : Nat → Nat → Value), Value.slice ad len c' = .slice ad' len cap ∧ (0 < len → ad'.isSome = true) ∧ (∀ bb, ad' = some bb → ∀ i j, i < len → j < sz' → w.cell? (bb.add (i * sz' + j)) = some (vf i j)) ∧
          (∀ i, i < len → (row' (off + i)).length = sz' ∧ allLeaf (row' (off + i)) = true ∧ pureL (row' (off + i)) = true) ∧ (∀ i j, i < len → j < sz' → R β H w.heap (vf i j) ((row' (off + i)).getD j .und)) := by
      intro vs et fz hw hsz hl hv
      refine ⟨ad, c', fun i j => vs.getD ((off + i) * sz' + j) undef, rfl, fun hp => by rw [ha (by omega)]; rfl, fun bb hbb i j hi hj => ?_, fun i hi => hl _ (by omega), fun i j hi hj => hv _ _ (by omega) hj⟩
      have hb : (off + i) * sz' + sz' ≤ N * sz' := by
        have := Nat.mul_le_mul_right sz' (show off + i + 1 ≤ N by omega)
        rw [Nat.succ_mul] at this; exact this
      rw [ha (by omega)] at hbb
      cases hbb
      rw [Addr.add_lit, cell_of hw, show off * sz' + (i * sz' + j) = (off + i) * sz' + j by rw [Nat.add_mul]; omega]
      exact getD_some (by omega)
    rcases hH with hH | hH
    · obtain ⟨vs, et, fz, hw, hsz, _, hl, hv⟩ := hR.arr r _ N _ hH; exact main vs et fz hw hsz hl hv
    · obtain ⟨vs, et, fz, _, hw, hsz, hl, hv⟩ := hR.fro r _ N _ hH; exact main vs et fz hw hsz hl hv
  | osld sz' r off len c' b o' full ad ha hc hf hr hH =>
    have hrow : rowsOf H r = none := by unfold rowsOf; rw [hH]
    simp only [srcOf, hrow] at h
    cases h
  | str s => exact absurd rfl (hs s)
  | _ => cases h

theorem conv_int {s d : Nat} {k : IntKind} {n : Int} {r : AV} (h : convAV c s d (.int k n) = some (true, r)) : ∃ k1 k2, c.kOf s = some (.int k1) ∧ c.kOf d = some (.int k2) ∧ r = .int k2 (k2.wrap n) := by
  simp only [convAV] at h
  split at h
  · rename_i k1 k2 h1 h2
    exact ⟨k1, k2, h1, h2, (Prod.mk.inj (Option.some.inj h)).2.symm⟩
  · cases h
theorem conv_str {s d : Nat} {z : ByteArray} {r : AV} (h : convAV c s d (.str z) = some (true, r)) :
    (c.kOf s = some .str ∧ c.kOf d = some .str ∧ r = .str z) ∨ ∃ et, c.kOf s = some .str ∧ c.kOf d = some (.slice et) ∧ c.kOf et = some (.int .u8) ∧ r = .sl 1 z.size (rowB z) false := by
  simp only [convAV] at h
  split at h
  · rename_i h1 h2
    exact .inl ⟨h1, h2, (Prod.mk.inj (Option.some.inj h)).2.symm⟩
  · rename_i et h1 h2
    split at h
    · rename_i h3
      exact .inr ⟨et, h1, h2, h3, (Prod.mk.inj (Option.some.inj h)).2.symm⟩
    · cases h
  · cases h
theorem conv_sl {s d sz n : Nat} {row : Nat → List AV} {full : Bool} {r : AV} (h : convAV c s d (.sl sz n row full) = some (true, r)) :
    sz = 1 ∧ ∃ et, c.kOf s = some (.slice et) ∧ c.kOf d = some .str ∧ c.kOf et = some (.int .u8) ∧ allU8 row n = true ∧ r = .str (bytesOf n row) := by
  simp only [convAV] at h
  split at h
  case isFalse => cases h
  rename_i hs
  refine ⟨hs, ?_⟩
  split at h
  · rename_i et h1 h2
    split at h
    · rename_i h3
      obtain ⟨h4, h5⟩ := Prod.mk.inj (Option.some.inj h)
      exact ⟨et, h1, h2, h3, h4, h5.symm⟩
    · cases h
  · cases h

theorem op_convert (hC : CtxOK c P) {s d : Nat} {y : Operand} (ho : o.op = .convert s d y) (hR : HR β H w.heap) (hE : ER β H w.heap a.tmps e)
    (h : opt (opd e y) (fun u => match u with
    | .osl .. => opt (srcOf H u) fun (sz, n, row) => chk (convAV c s d (.sl sz n row false)) fun v => κ (some v) H
    | u => chk (convAV c s d u) fun v => κ (some v) H) = some x) : Goal P o a w Q κ x β H := by
  obtain ⟨u, hu, h1⟩ := opt_some h
  have ru := opd_ok hE hu
  have run : ∀ cv w', (convert s d (a.eval y)).run P w = .ok cv w' → (execOp a.eval o).run P w = .ok (.value cv) w' := by
    intro cv w' hcv
    unfold execOp
    rw [ho]
    simp [hcv]
  have bytes : ∀ (n : Nat) (row : Nat → List AV) full r, (∀ z, u ≠ .str z) → srcOf H u = some (1, n, row) → convAV c s d (.sl 1 n row full) = some (true, r) → κ (some r) H = some x → Goal P o a w Q κ x β H := by
    intro n row full r hns hsrc hr hk
    obtain ⟨_, se, hks, hkd, hke, h1, rfl⟩ := conv_sl hr
    · have hds : P.underlying s = some (.slice se) := kOf_desc hC hks
      have hdd : P.underlying d = some .string := kOf_desc hC hkd
      have hde : P.underlying se = some (.int .u8) := kOf_desc hC hke
      obtain ⟨ad, cap, vf, hv, hsome, hcell, hl, hRr⟩ := src_cells hR ru hsrc hns
      have hu8 := isU8_of h1
      refine Goal.value hR (run (.string (bytesOf n row)) w ?_) (.str _) hk
      rw [hv]
      have hconv : (convert s d (.slice ad n cap)).run P w = (Conv.bytesToString (.slice ad n cap)).run P w := by
        simp [convert, run_underlying hds w, run_underlying hdd w, run_underlying hde w]
      rw [hconv]
      cases ad with
      | none =>
        have hn : n = 0 := by
          rcases Nat.eq_zero_or_pos n with h | h
          · exact h
          · have := hsome h; cases this
        subst hn
        rfl
      | some bb =>
        have hch : ∀ i, i < n → ∃ m, row i = [.int .u8 m] ∧ vf i 0 = .int .u8 m := fun i hi => by
          obtain ⟨m, hm⟩ := hu8 i hi
          have := hRr i 0 hi (by omega)
          rw [hm] at this
          exact ⟨m, hm, this.inv_int⟩
        have hcs := run_loadCells_list (P := P) (w := w) bb (((List.range n).map fun i => match row i with | [.int _ m] => m | _ => 0).map (Value.int .u8)) (fun i v hi => ?_)
        · simp only [List.length_map, List.length_range] at hcs
          rw [run_bytesToString (P := P) w bb n cap _ hcs, foldl_push]
          congr 2
          unfold bytesOf
          congr 1
          apply congrArg
          simp only [ByteArray.empty, List.map_map]
          show [] ++ _ = _
          rw [List.nil_append]
          apply List.map_congr_left
          intro i hi
          obtain ⟨m, hm, _⟩ := hch i (by simpa using hi)
          simp [hm, u8Of]
        · by_cases hlt : i < n
          · obtain ⟨m, hm, hm2⟩ := hch i hlt
            have := hcell bb rfl i 0 hlt (by omega)
            simp only [Nat.mul_one, Nat.add_zero] at this
            simp [List.getElem?_range hlt, hm] at hi
            rw [this, hm2, ← hi]
          · rw [List.getElem?_eq_none (by simp; omega)] at hi; cases hi
  cases hu' : u with
  | osl sz' r off len full =>
    rw [hu'] at h1
    obtain ⟨⟨sz, n, row⟩, hsrc, h2⟩ := opt_some h1
    obtain ⟨r, hr, hk⟩ := chk_some h2
    obtain ⟨rfl, _⟩ := conv_sl hr
    exact bytes n row false r (by rw [hu']; intro z; simp) (by rw [hu']; exact hsrc) hr hk
  | sl sz n row full =>
    rw [hu'] at h1
    obtain ⟨r, hr, hk⟩ := chk_some h1
    obtain ⟨rfl, _⟩ := conv_sl hr
    exact bytes n row full r (by rw [hu']; intro z; simp) (by rw [hu']; rfl) hr hk
  | int k n =>
    rw [hu'] at h1 ru
    obtain ⟨r, hr, hk⟩ := chk_some h1
    obtain ⟨k1, k2, q1, q2, rfl⟩ := conv_int hr
    have hds : P.underlying s = some (.int k1) := kOf_desc hC q1
    have hdd : P.underlying d = some (.int k2) := kOf_desc hC q2
    refine Goal.value hR (run (.int k2 (k2.wrap n)) w ?_) (.int _ _) hk
    rw [ru.inv_int]
    simp [convert, run_underlying hds w, run_underlying hdd w, Conv.intToInt]
  | str z =>
    rw [hu'] at h1 ru
    obtain ⟨r, hr, hk⟩ := chk_some h1
    rcases conv_str hr with ⟨q1, q2, rfl⟩ | ⟨et, q1, q2, hke, rfl⟩
    · have hds : P.underlying s = some .string := kOf_desc hC q1
      have hdd : P.underlying d = some .string := kOf_desc hC q2
      refine Goal.value hR (run (.string z) w ?_) (.str _) hk
      rw [ru.inv_str]
      simp [convert, run_underlying hds w, run_underlying hdd w]
    · · have hds : P.underlying s = some .string := kOf_desc hC q1
        have hdd : P.underlying d = some (.slice et) := kOf_desc hC q2
        have hde : P.underlying et = some (.int .u8) := kOf_desc hC hke
        let cap := (Question.appendCap z.size 0 et).cut (w.tape w.drawn (.appendCap z.size 0 et))
        have hcap : z.size ≤ cap := by show z.size ≤ z.size + _; omega
        let cs : Array Value := (z.data.map fun b => Value.int .u8 b.toNat) ++ Array.replicate (cap - z.size) (.int .u8 0)
        have hcsz : cs.size = cap := by
          have : z.data.size = z.size := rfl
          simp [cs]; omega
        let ob : Obj := .cells cs et (cap, cap + 1)
        let w' : World := { w with heap := w.heap.push ob, drawn := w.drawn + 1 }
        refine Goal.moved (w' := w') (hR.push ob) (Evo.push hR ob) ⟨rfl, rfl, rfl⟩ (run (.slice (some ⟨w.heap.size, 0, none⟩) z.size cap) w' ?_) ?_ hk
        · rw [ru.inv_str]
          have hstep : (convert s d (.string z)).run P w = (Conv.stringToBytes et z).run P w := by
            simp [convert, run_underlying hds w, run_underlying hdd w, run_underlying hde w]
          rw [hstep]
          simp only [Conv.stringToBytes, Sem.run_bind, run_choose, Question.forced, Bool.false_eq_true, if_false, Result.andThen_ok, newRow, run_newObj, Sem.run_pure, markStringish, run_shape]
          have hsh : World.shape? { w with heap := w.heap.push (.cells cs et (0, 0)), drawn := w.drawn + 1 } w.heap.size = some (et, cap) := by
            simp [World.shape?, hcsz]
          show (Result.andThen (Sem.run P (match World.shape? { w with heap := w.heap.push (.cells cs et (0, 0)), drawn := w.drawn + 1 } w.heap.size with
            | some (_, n) => freeze { block := w.heap.size, off := n } 1
            | _ => pure ()) { w with heap := w.heap.push (.cells cs et (0, 0)), drawn := w.drawn + 1 }) _) = _
          rw [hsh]
          simp only [run_freeze, Result.andThen_ok, Sem.run_pure]
          congr 1
          simp only [World.freeze, Nat.one_ne_zero, if_false]
          rw [modify_push]
          rfl
        · show R β H (w.heap.push ob) _ _
          refine .sl w.heap.size 0 z.size cap 1 (rowB z) false cs et (cap, cap + 1) (fun i j => .int .u8 ((z.data.getD i 0).toNat : Int)) (imm_new hR ob) push_eq hcap (fun h => by cases h) (fun i hi => ⟨rfl, rfl, rfl⟩) (fun i j hi hj => ?_) fun i j hi hj => ?_
          · have hj0 : j = 0 := by omega
            subst hj0
            have hi' : i < z.data.size := hi
            simp only [cs, Nat.zero_add, Nat.mul_one, Nat.add_zero]
            rw [Array.getElem?_append_left (by simpa using hi')]
            rw [Array.getElem?_map, Array.getElem?_eq_getElem hi', Array.getD_eq_getD_getElem?, Array.getElem?_eq_getElem hi']
            rfl
          · have hj0 : j = 0 := by omega
            subst hj0
            exact .int _ _
  | _ =>
    rw [hu'] at h1
    obtain ⟨r, hr, hk⟩ := chk_some h1
    cases hr
end
end Go.Ev

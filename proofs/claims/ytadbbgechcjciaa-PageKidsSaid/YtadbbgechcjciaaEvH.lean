/- The reckoner's operations tell the truth, the thirteenth: the builtins as operations. No conditions. -/
import Derived.Test.YtadbbgechcjciaaEvG
set_option linter.unusedVariables false
set_option linter.unusedSimpArgs false
set_option linter.unusedSectionVars false
namespace Go.Ev
open Go
variable [Gh]

section
variable {ρ : Type} {P : Program} {o : Oper} {a : Act} {w : World} {Q : Exit → Act → World → Prop} {κ : AV → Heap → Option ρ} {x : ρ} {β : Nat → Nat} {H : Heap} {e : List (Option AV)} {c : Ctx}

theorem copyE_ok {st xt ty : TypeId} {et : Nat} {ey : Ty} (hC : CtxOK c P) (hR : HR β H w.heap) (hu : P.underlying st = some (.slice et)) (hT : TyOK P et ey) {dv xv : Value} {p y : AV} (hp : R β H w.heap dv p) (hy : R β H w.heap xv y)
    (hes : ∀ sz r off len full, p = .osl sz r off len full → sz = ey.size) (h : copyE H p y κ = some x) : AEnd κ x β H w (fun w => (Builtin.copy_ #[st, xt] ty #[dv, xv]).run P w) := by
  unfold copyE at h
  split at h
  case h_2 => cases h
  rename_i sy m row' sz' r off len full hsrc
  split at h
  case h_2 => cases h
  rename_i sx N row hH
  obtain ⟨hsy, hk⟩ := ite_some h
  clear h
  have hszz : sz' = ey.size := hes _ _ _ _ _ rfl
  cases hp with
  | osld _ _ _ _ _ _ _ _ _ _ _ _ _ hd => rw [hH] at hd; cases hd
  | osl _ _ _ cap _ N' mm row2 _ ad ha hH' hW hn hc hf hs hu' =>
    have hH2 : sz' = sx ∧ N' = N := by
      rcases hH' with h' | h' <;> rw [hH] at h' <;> cases h'
      exact ⟨rfl, rfl⟩
    obtain ⟨rfl, rfl⟩ := hH2
    obtain ⟨vs, et', fz, hw, hsz, hz, hrl, hrR⟩ := hR.arr r sz' N' row hH
    have hmm : mm = vs.size := by rw [cellsAt_of hw] at hW; exact (Option.some.inj hW).symm
    -- what is read
    have hread : ∃ cells : Array Value, cells.size = min m len * sz' ∧ (∀ v ∈ cells.toList, v.oneCell' = true) ∧ (Builtin.lenOf xv).run P w = .ok m w ∧ (Builtin.firstCells sz' (min m len) xv).run P w = .ok cells w ∧ RR β H w.heap sz' (min m len) cells row' := by
      by_cases hstr : ∃ s, y = .str s
      · obtain ⟨s, rfl⟩ := hstr
        have := hy.inv_str; subst this
        simp only [srcOf, Option.some.injEq, Prod.mk.injEq] at hsrc
        obtain ⟨rfl, rfl, rfl⟩ := hsrc
        have hex : (s.extract 0 (min s.size len)).size = min s.size len := by
          rw [ByteArray.size_extract]; omega
        have hsz1 : min s.size len = min s.size len * sz' := by
          rcases hsy with h1 | h1
          · rw [← h1]; omega
          · rw [h1]; simp
        refine ⟨(s.extract 0 (min s.size len)).data.map fun b => .int .u8 b.toNat, ?_, fun v hv => ?_, rfl, rfl, fun i hi => ?_, fun i j hi hj => ?_⟩
        · rw [Array.size_map]
          exact hex.trans hsz1
        · simp only [Array.toList_map, List.mem_map] at hv
          obtain ⟨b, _, rfl⟩ := hv; rfl
        · have : sz' = 1 := by rcases hsy with h1 | h1 <;> omega
          subst this
          exact ⟨rfl, rfl, rfl⟩
        · have : sz' = 1 := by rcases hsy with h1 | h1 <;> omega
          subst this
          have hj0 : j = 0 := by omega
          subst hj0
          simp only [Nat.mul_one, Nat.add_zero]
          have hi' : i < (s.extract 0 (min s.size len)).data.size := by
            show i < (s.extract 0 (min s.size len)).size
            rw [hex]; exact hi
          have hi2 : i < s.data.size := by show i < s.size; omega
          have hb : (s.extract 0 (min s.size len)).data[i]? = some s.data[i] := by
            have : (s.extract 0 (min s.size len)).data = s.data.extract 0 (min s.size len) := ByteArray.data_extract
            rw [this, Array.getElem?_extract, if_pos (by simp; omega)]
            simp [hi2]
          have : ((s.extract 0 (min s.size len)).data.map fun b => Value.int .u8 b.toNat).getD i undef = .int .u8 ((s.data.getD i 0).toNat : Int) := by
            rw [Array.getD_eq_getD_getElem?, Array.getElem?_map, hb, Array.getD_eq_getD_getElem?, Array.getElem?_eq_getElem hi2]; rfl
          rw [this]
          exact .int _ _
      · obtain ⟨ad', cap', vf, rfl, hsome, hcell, hl, hRr⟩ := src_cells hR hy hsrc (fun s hs => hstr ⟨s, hs⟩)
        by_cases hm0 : min m len = 0
        · refine ⟨#[], by rw [hm0]; simp, by simp, rfl, ?_, by rw [hm0]; exact ⟨fun i hi => by omega, fun i j hi => by omega⟩⟩
          rw [hm0]
          cases ad' with
          | none => rfl
          | some bb =>
            have := run_loadCells_list (P := P) (w := w) bb [] (fun j v hj => by simp at hj)
            simpa [Builtin.firstCells] using this
        · have hsy' : sy = sz' := hsy.resolve_right (by omega)
          subst hsy'
          have hRR : RR β H w.heap sy (min m len) (((List.range (min m len * sy)).map fun k => vf (k / sy) (k % sy)).toArray) row' :=
            ⟨fun i hi => hl i (by omega), fun i j hi hj => by rw [flat_getD hi hj]; exact hRr i j (by omega) hj⟩
          refine ⟨_, by simp, RR_one hRR (by simp), rfl, ?_, hRR⟩
          obtain ⟨bb, rfl⟩ := Option.isSome_iff_exists.1 (hsome (by omega))
          exact load_rows (n := min m len) (fun i j hi hj => hcell bb rfl i j (by omega) hj) w rfl
    obtain ⟨cells, c1, c2, c3, c4, c5⟩ := hread
    have hend : off * sz' + min m len * sz' ≤ vs.size := by
      rw [← Nat.add_mul, ← hmm]
      exact Nat.le_trans (Nat.mul_le_mul_right _ (by omega)) hs
    have hlen2 : off * sz' + cells.toList.length ≤ vs.size := by rw [Array.length_toList, c1]; exact hend
    have hst := run_storeCells_cells (P := P) (β r) (off * sz') cells.toList 0 w (fun j hj => by
        rw [cell_of hw, getD_some (by simp at hj; omega)]; rfl)
      (fun j hj => by
        simp only [World.frozen?, hw]
        simp only [Array.length_toList] at hj
        by_cases hlt : fz.1 < fz.2
        · rw [if_pos hlt] at hz
          have : ¬ fz.1 ≤ off * sz' + 0 + j := by omega
          rw [decide_eq_false this]; rfl
        · have : ¬ (fz.1 ≤ off * sz' + 0 + j ∧ off * sz' + 0 + j < fz.2) := by omega
          simpa using this) c2
    simp only [Nat.add_zero] at hst
    obtain ⟨cs', s1, s2, s3, s4, s5, s6⟩ := setCells_heap cells.toList (off * sz') w vs hw hlen2
    have hbut := but_setCells (w := w) (vs := cells.toList) (o := off * sz') (cs := vs) hw hlen2
    have hrr' : RR β H w.heap sz' N' cs' (fun i => if off ≤ i ∧ i < off + min m len then row' (i - off) else row i) := by
      refine ⟨fun i hi => ?_, fun i j hi hj => ?_⟩
      · simp only
        split
        · exact c5.1 (i - off) (by omega)
        · exact hrl i hi
      · have hi2 := row_in (sz := sz') hi
        rw [s3 _ (by omega), Array.length_toList, c1]
        simp only
        by_cases hr : off ≤ i ∧ i < off + min m len
        · rw [if_pos hr]
          have h3 := row_in (i := i - off) (n := min m len) (sz := sz') (by omega)
          have h4 : i * sz' + j = off * sz' + ((i - off) * sz' + j) := by
            have : i = off + (i - off) := by omega
            rw [this, Nat.add_mul, show off + (i - off) - off = i - off by omega]; omega
          rw [if_pos (by omega), h4, Nat.add_sub_cancel_left]
          have := c5.2 (i - off) j (by omega) hj
          simpa [Array.getD_eq_getD_getElem?, List.getD_eq_getElem?_getD] using this
        · rw [if_neg hr]
          have : ¬ (off * sz' ≤ i * sz' + j ∧ i * sz' + j < off * sz' + min m len * sz') := by
            by_cases hlo : i < off
            · have := row_in (sz := sz') hlo; omega
            · have h5 : off + min m len ≤ i := by omega
              have := Nat.mul_le_mul_right sz' h5
              rw [Nat.add_mul] at this; omega
          rw [if_neg this]
          exact hrR i j hi hj
    have hE := Evo.set_arr hR hH (fun i => if off ≤ i ∧ i < off + min m len then row' (i - off) else row i) hbut
    by_cases hz0 : 0 < cap
    · have had := ha hz0
      refine ⟨_, _, β, _, w.setCells (β r) (off * sz') cells.toList, ?_, hk, .int _ _, HR.set_arr hR hH _ hbut cs' et' fz s1 (by omega) (by rw [s2]; exact hz) hrr'.1 hrr'.2, hE, s6⟩
      have hmn : Nat.min m len = min m len := rfl
      simp only [Builtin.copy_, List.getElem?_toArray, List.getElem?_cons_zero, List.getElem?_cons_succ, Sem.run_bind, run_underlying hu w, Result.andThen_ok, hT.sizeOf, ← hszz, c3, hmn, c4, had, hst, Sem.run_pure]
      rfl
    · have hl0 : len = 0 := by omega
      have hc0 : cells.toList = [] := by rw [hl0] at c1; simpa using c1
      have hsame : w.setCells (β r) (off * sz') cells.toList = w := by rw [hc0]; rfl
      rw [hsame] at s1 s6 hbut hE
      refine ⟨_, _, β, _, w, ?_, hk, .int _ _, HR.set_arr hR hH _ hbut cs' et' fz s1 (by omega) (by rw [s2]; exact hz) hrr'.1 hrr'.2, hE, s6⟩
      have hmn : Nat.min m len = min m len := rfl
      cases ad with
      | none =>
        simp only [Builtin.copy_, List.getElem?_toArray, List.getElem?_cons_zero, List.getElem?_cons_succ, Sem.run_bind, run_underlying hu w, Result.andThen_ok, hT.sizeOf, ← hszz, c3, hmn, c4, Sem.run_pure]
        rfl
      | some bb =>
        simp only [Builtin.copy_, List.getElem?_toArray, List.getElem?_cons_zero, List.getElem?_cons_succ, Sem.run_bind, run_underlying hu w, Result.andThen_ok, hT.sizeOf, ← hszz, c3, hmn, c4, Sem.run_pure, hc0]
        rfl
  
theorem lenAV_ok {t ty : TypeId} (hC : CtxOK c P) {v : Value} {y : AV} (hy : R β H w.heap v y) {n : Int} (h : lenAV (c.kOf t) y = some n) (ts : Array TypeId) (hts : ts[0]? = some t) : (Builtin.len_ ts ty #[v]).run P w = .ok (.int .i64 n) w := by
  unfold lenAV at h
  split at h
  · rename_i et sz n' row full hk
    have hd : P.underlying t = some (.slice et) := kOf_desc hC hk
    cases h
    cases hy <;> simp [Builtin.len_, hts, run_underlying hd w, goInt]
  · rename_i et sz r off n' full hk
    have hd : P.underlying t = some (.slice et) := kOf_desc hC hk
    cases h
    cases hy <;> simp [Builtin.len_, hts, run_underlying hd w, goInt]
  · rename_i et sz n' cs hk
    have hd : P.underlying t = some (.slice et) := kOf_desc hC hk
    cases h
    cases hy
    simp [Builtin.len_, hts, run_underlying hd w, goInt]
  · rename_i s hk
    have hd : P.underlying t = some .string := kOf_desc hC hk
    cases h
    cases hy
    simp [Builtin.len_, hts, run_underlying hd w, goInt]
  · cases h
theorem capAV_ok {t ty : TypeId} (hC : CtxOK c P) {v : Value} {y : AV} (hy : R β H w.heap v y) {n : Int} (h : capAV (c.kOf t) y = some n) (ts : Array TypeId) (hts : ts[0]? = some t) : (Builtin.cap_ ts ty #[v]).run P w = .ok (.int .i64 n) w := by
  unfold capAV at h
  split at h
  · rename_i et sz n' row hk
    have hd : P.underlying t = some (.slice et) := kOf_desc hC hk
    cases h
    cases hy with
    | sl0 _ _ _ _ _ hf => simp [Builtin.cap_, hts, run_underlying hd w, goInt, hf rfl]
    | sl _ _ _ _ _ _ _ _ _ _ _ _ _ _ hf _ _ _ => simp [Builtin.cap_, hts, run_underlying hd w, goInt, hf rfl]
  · rename_i et sz r off n' hk
    have hd : P.underlying t = some (.slice et) := kOf_desc hC hk
    cases h
    cases hy with
    | osl _ _ _ _ _ _ _ _ _ _ _ _ _ _ _ hf _ _ => simp [Builtin.cap_, hts, run_underlying hd w, goInt, hf rfl]
    | osld _ _ _ _ _ _ _ _ _ _ _ hf _ _ => simp [Builtin.cap_, hts, run_underlying hd w, goInt, hf rfl]
  · cases h
end
end Go.Ev

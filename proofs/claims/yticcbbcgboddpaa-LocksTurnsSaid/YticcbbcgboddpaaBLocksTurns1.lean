/- The reckoner's operations tell the truth, the twelfth: the builtins. No conditions. -/
import Derived.Test.YticcbbcgboddpaaBLocksTurns0
import Derived.Scope
set_option linter.unusedVariables false
set_option linter.unusedSimpArgs false
set_option linter.unusedSectionVars false
namespace Go.Ev
open Go
variable [Gh]

section
variable {ρ : Type} {P : Program} {o : Oper} {a : Act} {w : World} {Q : Exit → Act → World → Prop} {κ : AV → Heap → Option ρ} {x : ρ} {β : Nat → Nat} {H : Heap} {e : List (Option AV)} {c : Ctx}

theorem RR.cat {W : Array Obj} {sz n m : Nat} {old cells rest : Array Value} {row row' : Nat → List AV} (ho : old.size = n * sz) (hc : cells.size = m * sz) (h : RR β H W sz n old row) (h' : RR β H W sz m cells row') :
    RR β H W sz (n + m) (old ++ cells ++ rest) (catRow n row row') := by
  refine ⟨fun i hi => ?_, fun i j hi hj => ?_⟩
  · unfold catRow
    split
    · exact h.1 i ‹_›
    · exact h'.1 _ (by omega)
  · unfold catRow
    split
    · rename_i hlt
      have hin := row_in (sz := sz) hlt
      have : (old ++ cells ++ rest).getD (i * sz + j) undef = old.getD (i * sz + j) undef := by
        rw [Array.getD_eq_getD_getElem?, Array.getD_eq_getD_getElem?, Array.append_assoc, Array.getElem?_append_left (by omega)]
      rw [this]; exact h.2 i j hlt hj
    · rename_i hge
      have hin := row_in (i := i - n) (n := m) (sz := sz) (by omega)
      have hidx : i * sz + j = n * sz + ((i - n) * sz + j) := by
        have : i = n + (i - n) := by omega
        rw [this, Nat.add_mul, show n + (i - n) - n = i - n by omega]; omega
      have : (old ++ cells ++ rest).getD (i * sz + j) undef = cells.getD ((i - n) * sz + j) undef := by
        rw [Array.getD_eq_getD_getElem?, Array.getD_eq_getD_getElem?, Array.append_assoc, Array.getElem?_append_right (by omega), Array.getElem?_append_left (by omega), hidx, ho]
        congr 2; omega
      rw [this]; exact h'.2 _ j (by omega) hj

/-- where an append ends -/
def AEnd (κ : AV → Heap → Option ρ) (x : ρ) (β : Nat → Nat) (H : Heap) (w : World) (run : World → Result Value) : Prop :=
  ∃ cv av β' H' w', run w = .ok cv w' ∧ κ av H' = some x ∧ R β' H' w'.heap cv av ∧ HR β' H' w'.heap ∧ Evo β H w.heap β' H' w'.heap ∧ Same w w'

theorem append_fresh {st xt ty : TypeId} {et : Nat} {ey : Ty} (hR : HR β H w.heap) (hu : P.underlying st = some (.slice et)) (hT : TyOK P et ey) {base : Option Addr} {n cap m : Nat} {xv : Value} {cells : Array Value} (hA : App P w ey et xt xv m cells)
    {row' row : Nat → List AV} (hrr : RR β H w.heap ey.size m cells row') (hcap : cap = n) (hm : 0 < m) (hroom : roomOf (n + m) ey.bytes = true)
    {vf : Nat → Nat → Value} (hsome : 0 < n → base.isSome = true) (hcell : ∀ bb, base = some bb → ∀ i j, i < n → j < ey.size → w.cell? (bb.add (i * ey.size + j)) = some (vf i j))
    (hl : ∀ i, i < n → (row i).length = ey.size ∧ allLeaf (row i) = true ∧ pureL (row i) = true) (hv : ∀ i j, i < n → j < ey.size → R β H w.heap (vf i j) ((row i).getD j .und))
    {H0 : Heap} (hk : κ (.osl ey.size H.length 0 (n + m) false) (H ++ [some (.arr ey.size (n + m) (catRow n row row'))]) = some x) :
    AEnd κ x β H w (fun w => (Builtin.append_ #[st, xt] ty #[.slice base n cap, xv]).run P w) := by
  obtain ⟨r1, r2⟩ := roomOf_iff hroom
  let old : Array Value := ((List.range (n * ey.size)).map fun k => vf (k / ey.size) (k % ey.size)).toArray
  have hold : ∀ w' : World, w'.heap = w.heap → (Builtin.firstCells ey.size n (.slice base n cap)).run P w' = .ok old w' := by
    intro w' hw'
    cases base with
    | none =>
      have hn0 : n = 0 := by
        rcases Nat.eq_zero_or_pos n with h | h
        · exact h
        · have := hsome h; cases this
      subst hn0
      simp [Builtin.firstCells, old]
    | some bb => exact load_rows (hcell bb rfl) w' hw'
  have hold2 : RR β H w.heap ey.size n old row := ⟨hl, fun i j hi hj => by rw [flat_getD hi hj]; exact hv i j hi hj⟩
  obtain ⟨newCap, rest, h1, h2, h3⟩ := append_new (ty := ty) hu hT hA (base := base) (sLen := n) (sCap := cap) (old := old) (by omega) r1 r2 hold
  have hcat := RR.cat (rest := rest) (by simp [old]) hA.size hold2 hrr
  have hsize : (old ++ cells ++ rest).size = newCap * ey.size := by
    simp only [Array.size_append, hA.size, h2]
    have : old.size = n * ey.size := by simp [old]
    rw [this, ← Nat.add_mul, ← Nat.add_mul]
    congr 1; omega
  have hle : (n + m) * ey.size ≤ newCap * ey.size := Nat.mul_le_mul_right _ h1
  exact ⟨_, _, upd β H.length w.heap.size, _, _, h3, hk, arr_slice hR (Nat.le_refl _) h1 (fun h => by cases h) (by rw [hsize]; exact Nat.le_refl _), HR.new_arr hR _ et ey.size (n + m) _ (by rw [hsize]; exact hle) hcat.1 hcat.2, Evo.new hR _ _, ⟨rfl, rfl, rfl⟩⟩

theorem append_none {st xt ty : TypeId} {et : Nat} {ey : Ty} (hR : HR β H w.heap) (hu : P.underlying st = some (.slice et)) (hT : TyOK P et ey) {base : Option Addr} {n cap : Nat} {xv : Value} {cells : Array Value} (hA : App P w ey et xt xv 0 cells)
    (hcap : n ≤ cap) {av : AV} (hv : R β H w.heap (.slice base n cap) av) (hk : κ av H = some x) : AEnd κ x β H w (fun w => (Builtin.append_ #[st, xt] ty #[.slice base n cap, xv]).run P w) := by
  have hc0 : cells.toList = [] := by
    have := hA.size
    rw [Nat.zero_mul] at this
    simpa using this
  refine ⟨_, av, β, H, w, append_in hu hT hA (by omega) (w' := w) ?_, hk, hv, hR, Evo.refl _ _ _, Same.refl _⟩
  cases base with
  | none => rfl
  | some bb => simp only [hc0]; rfl

theorem appendE_ok {st xt ty : TypeId} {et : Nat} {ey : Ty} (hR : HR β H w.heap) (hu : P.underlying st = some (.slice et)) (hT : TyOK P et ey) {sv xv : Value} {y : AV} {m : Nat} {cells : Array Value} (hA : App P w ey et xt xv m cells)
    {row' : Nat → List AV} (hrr : RR β H w.heap ey.size m cells row') (hy : R β H w.heap sv y) (h : appendE ey.size ey.bytes H y m row' κ = some x) :
    AEnd κ x β H w (fun w => (Builtin.append_ #[st, xt] ty #[sv, xv]).run P w) := by
  cases y with
  | sl sx n row full =>
    simp only [appendE] at h
    obtain ⟨hsx, h1⟩ := ite_some h
    clear h
    obtain ⟨ad, cap, vf, rfl, hsome, hcell, hl, hv⟩ := src_cells hR hy (sz := sx) (n := n) (row := row) rfl (fun s => by simp)
    have hcap : n ≤ cap ∧ (full = true → cap = n) := by
      cases hy with
      | sl0 _ _ _ _ _ hf => exact ⟨Nat.zero_le _, hf⟩
      | sl _ _ _ _ _ _ _ _ _ _ _ _ _ hc hf _ _ _ => exact ⟨hc, hf⟩
    by_cases hm : m = 0
    · subst hm
      simp only [decide_true, cond_true] at h1
      exact append_none hR hu hT hA hcap.1 hy h1
    · simp only [hm, decide_false, cond_false] at h1
      obtain ⟨hb, h2⟩ := bif_some h1
      clear h1
      simp only [Bool.and_eq_true] at hb
      by_cases hn : n = 0
      · subst hn
        exact append_fresh (H0 := H) hR hu hT hA hrr (hcap.2 hb.1) (by omega) hb.2 (row := row) (vf := vf) hsome (fun bb _ i j hi => by omega) (fun i hi => by omega) (fun i j hi => by omega) h2
      · have hsz : sx = ey.size := hsx.resolve_right hn
        subst hsz
        exact append_fresh (H0 := H) hR hu hT hA hrr (hcap.2 hb.1) (by omega) hb.2 hsome hcell hl hv h2
  | osl sz' r off len full =>
    simp only [appendE] at h
    split at h
    case h_2 => cases h
    rename_i sx N row hH
    obtain ⟨hsx, h1⟩ := ite_some h
    clear h
    have hrow : rowsOf H r = some (sx, N, row) := by unfold rowsOf; rw [hH]
    obtain ⟨ad, cap, vf, rfl, hsome, hcell, hl, hv⟩ := src_cells hR hy (sz := sx) (n := len) (row := fun i => row (off + i)) (by simp only [srcOf, hrow]) (fun s => by simp)
    obtain ⟨e1, hn, hc, hf, ha, mm, hW, hs, hu'⟩ : sz' = sx ∧ off + len ≤ N ∧ len ≤ cap ∧ (full = true → cap = len) ∧ (0 < cap → ad = some ⟨β r, off * sx, none⟩) ∧ ∃ mm, cellsAt w.heap (β r) = some mm ∧ (off + cap) * sx ≤ mm ∧ (full = false → N ≤ off + cap) := by
      cases hy with
      | osl _ _ _ _ _ N' mm row2 _ _ ha hH' hW hn hc hf hs hu =>
        have hH2 : sz' = sx ∧ N' = N := by
          rcases hH' with h' | h' <;> rw [hH] at h' <;> cases h'
          exact ⟨rfl, rfl⟩
        obtain ⟨rfl, rfl⟩ := hH2
        exact ⟨rfl, hn, hc, hf, ha, mm, hW, hs, hu⟩
      | osld _ _ _ _ _ _ _ _ _ _ _ _ _ hd => rw [hH] at hd; cases hd
    subst e1
    by_cases hm : m = 0
    · subst hm
      simp only [decide_true, cond_true] at h1
      exact append_none hR hu hT hA hc hy h1
    · simp only [hm, decide_false, cond_false] at h1
      cases full with
      | true =>
        simp only [cond_true] at h1
        obtain ⟨hb, h2⟩ := bif_some h1
        subst hsx
        exact append_fresh (H0 := H) hR hu hT hA hrr (hf rfl) (by omega) hb hsome hcell hl hv h2
      | false =>
        simp only [cond_false] at h1
        have hu2 := hu' rfl
        obtain ⟨vs, et', fz, hw, hsz, hz, hrl, hrR⟩ := hR.arr r sz' N row hH
        have hmm : mm = vs.size := by rw [cellsAt_of hw] at hW; exact (Option.some.inj hW).symm
        -- in place: the cells that are laid behind
        have place : len + m ≤ cap → ∃ (cs' : Array Value) (w' : World), (Builtin.append_ #[st, xt] ty #[.slice ad len cap, xv]).run P w = .ok (.slice ad (len + m) cap) w' ∧ w'.heap[β r]? = some (.cells cs' et' fz) ∧ cs'.size = vs.size ∧
            (∀ k, k < vs.size → cs'.getD k undef = if (off + len) * sz' ≤ k ∧ k < (off + len) * sz' + m * sz' then cells.getD (k - (off + len) * sz') undef else vs.getD k undef) ∧ But (β r) w.heap w'.heap ∧ Same w w' := by
          intro hle
          have had := ha (by omega)
          have hcs : cells.size = m * sz' := by rw [hA.size, hsx]
          have hend : (off + len) * sz' + m * sz' ≤ vs.size := by
            rw [← Nat.add_mul, ← hmm]
            exact Nat.le_trans (Nat.mul_le_mul_right _ (by omega)) hs
          have hlen2 : (off + len) * sz' + cells.toList.length ≤ vs.size := by rw [Array.length_toList, hcs]; exact hend
          have hst := run_storeCells_cells (P := P) (β r) ((off + len) * sz') cells.toList 0 w (fun j hj => by
              rw [cell_of hw, getD_some (by simp at hj; omega)]; rfl)
            (fun j hj => by
              simp only [World.frozen?, hw]
              simp only [Array.length_toList] at hj
              by_cases hlt : fz.1 < fz.2
              · rw [if_pos hlt] at hz
                have : ¬ fz.1 ≤ (off + len) * sz' + 0 + j := by omega
                rw [decide_eq_false this]; rfl
              · have : ¬ (fz.1 ≤ (off + len) * sz' + 0 + j ∧ (off + len) * sz' + 0 + j < fz.2) := by omega
                simpa using this) hA.one
          simp only [Nat.add_zero] at hst
          obtain ⟨cs', c1, c2, c3, c4, c5, c6⟩ := setCells_heap cells.toList ((off + len) * sz') w vs hw hlen2
          refine ⟨cs', w.setCells (β r) ((off + len) * sz') cells.toList, append_in hu hT hA hle ?_, c1, c2, fun k hk => ?_, but_setCells (cs := vs) hw hlen2, c6⟩
          · rw [had]
            simp only [Addr.add_lit, ← hsx]
            rw [show off * sz' + len * sz' = (off + len) * sz' by rw [Nat.add_mul]]
            exact hst
          · rw [c3 k hk, Array.length_toList, hcs]
            simp [Array.getD_eq_getD_getElem?, List.getD_eq_getElem?_getD]
        by_cases hin : off + len + m ≤ N
        · simp only [hin, decide_true, cond_true] at h1
          obtain ⟨cs', w', hrun, hw', hcs', hval, hbut, hsame⟩ := place (by omega)
          have hrr' : RR β H w.heap sz' N cs' (fun i => if off + len ≤ i ∧ i < off + len + m then row' (i - (off + len)) else row i) := by
            refine ⟨fun i hi => ?_, fun i j hi hj => ?_⟩
            · simp only
              split
              · have := hrr.1 (i - (off + len)) (by omega)
                rw [← hsx] at this; exact this
              · exact hrl i hi
            · have hi2 := row_in (sz := sz') hi
              rw [hval _ (by omega)]
              simp only
              by_cases hr : off + len ≤ i ∧ i < off + len + m
              · rw [if_pos hr]
                have h3 := row_in (i := i - (off + len)) (n := m) (sz := sz') (by omega)
                have h4 : i * sz' + j = (off + len) * sz' + ((i - (off + len)) * sz' + j) := by
                  have : i = (off + len) + (i - (off + len)) := by omega
                  rw [this, Nat.add_mul, show off + len + (i - (off + len)) - (off + len) = i - (off + len) by omega]; omega
                rw [if_pos (by omega), h4, Nat.add_sub_cancel_left]
                have := hrr.2 (i - (off + len)) j (by omega) (by rw [← hsx]; exact hj)
                rw [← hsx] at this; exact this
              · rw [if_neg hr]
                have : ¬ ((off + len) * sz' ≤ i * sz' + j ∧ i * sz' + j < (off + len) * sz' + m * sz') := by
                  by_cases hlo : i < off + len
                  · have := row_in (sz := sz') hlo; omega
                  · have h5 : off + len + m ≤ i := by omega
                    have := Nat.mul_le_mul_right sz' h5
                    rw [Nat.add_mul] at this; omega
                rw [if_neg this]
                exact hrR i j hi hj
          rw [← hsx] at h1
          have hE := Evo.set_arr hR hH (fun i => if off + len ≤ i ∧ i < off + len + m then row' (i - (off + len)) else row i) hbut
          refine ⟨_, _, β, _, w', hrun, h1, ?_, HR.set_arr hR hH _ hbut cs' et' fz hw' (by omega) (by rw [hcs']; exact hz) hrr'.1 hrr'.2, hE, hsame⟩
          exact .osl r off (len + m) cap sz' N vs.size _ false ad ha (.inl (at_set_eq (Heap.at_lt hH))) (by rw [cellsAt_of hw', hcs']) (by omega) (by omega) (fun h => by cases h) (by rw [← hmm]; exact hs) (fun _ => hu2)
        · simp only [hin, decide_false, cond_false] at h1
          obtain ⟨hb, h2⟩ := bif_some h1
          simp only [Bool.and_eq_true, decide_eq_true_eq] at hb
          obtain ⟨rfl, rfl, hroom⟩ := hb
          rw [← hsx] at h2
          by_cases hle : len + m ≤ cap
          · obtain ⟨cs', w', hrun, hw', hcs', hval, hbut, hsame⟩ := place hle
            have hend : (len + m) * sz' ≤ vs.size := by
              rw [← hmm]; exact Nat.le_trans (Nat.mul_le_mul_right _ (by omega)) hs
            have hrr' : RR β H w.heap sz' (len + m) cs' (catRow len row row') := by
              refine ⟨fun i hi => ?_, fun i j hi hj => ?_⟩
              · unfold catRow
                split
                · exact hrl i ‹_›
                · have := hrr.1 (i - len) (by omega)
                  rw [← hsx] at this; exact this
              · have hi2 := row_in (sz := sz') hi
                rw [hval _ (by omega)]
                simp only [Nat.zero_add]
                unfold catRow
                by_cases hr : i < len
                · have := row_in (sz := sz') hr
                  rw [if_neg (by omega), if_pos hr]
                  exact hrR i j hr hj
                · have h3 := row_in (i := i - len) (n := m) (sz := sz') (by omega)
                  have h4 : i * sz' + j = len * sz' + ((i - len) * sz' + j) := by
                    have : i = len + (i - len) := by omega
                    rw [this, Nat.add_mul, show len + (i - len) - len = i - len by omega]; omega
                  rw [if_pos (by omega), if_neg hr, h4, Nat.add_sub_cancel_left]
                  have := hrr.2 (i - len) j (by omega) (by rw [← hsx]; exact hj)
                  rw [← hsx] at this; exact this
            refine ⟨_, _, upd β H.length (β r), _, w', hrun, h2, ?_, HR.regrow hR hH sz' (len + m) _ hbut cs' et' fz hw' (by omega) (by rw [hcs']; exact hz) hrr', Evo.regrow hR hH _ hbut, hsame⟩
            refine .osl H.length 0 (len + m) cap sz' (len + m) vs.size _ false ad (fun hp => by rw [upd_eq]; exact ha hp) (.inl at_regrow_new) (by rw [upd_eq, cellsAt_of hw', hcs']) (by omega) (by omega) (fun h => by cases h) (by rw [← hmm]; exact hs) (fun _ => by omega)
          · obtain ⟨r1, r2⟩ := roomOf_iff hroom
            let old : Array Value := ((List.range (len * ey.size)).map fun k => vf (k / ey.size) (k % ey.size)).toArray
            have hold : ∀ w' : World, w'.heap = w.heap → (Builtin.firstCells ey.size len (.slice ad len cap)).run P w' = .ok old w' := by
              intro w' hw'
              cases ad with
              | none =>
                have hn0 : len = 0 := by
                  rcases Nat.eq_zero_or_pos len with h | h
                  · exact h
                  · have := hsome h; cases this
                subst hn0
                simp [Builtin.firstCells, old]
              | some bb => exact load_rows (fun i j hi hj => by have := hcell bb rfl i j hi (by rw [hsx]; exact hj); rw [hsx] at this; exact this) w' hw'
            have hold2 : RR β H w.heap ey.size len old row := ⟨fun i hi => by have := hl i hi; rw [hsx] at this; simpa using this, fun i j hi hj => by
              rw [flat_getD hi hj]
              have := hv i j hi (by rw [hsx]; exact hj)
              simpa using this⟩
            obtain ⟨newCap, rest, h3, h4, h5⟩ := append_new (ty := ty) hu hT hA (base := ad) (sLen := len) (sCap := cap) (old := old) (by omega) r1 r2 hold
            have hcat := RR.cat (rest := rest) (by simp [old]) hA.size hold2 hrr
            have hsize : (old ++ cells ++ rest).size = newCap * ey.size := by
              simp only [Array.size_append, hA.size, h4]
              have : old.size = len * ey.size := by simp [old]
              rw [this, ← Nat.add_mul, ← Nat.add_mul]
              congr 1; omega
            have hle2 : (len + m) * ey.size ≤ newCap * ey.size := Nat.mul_le_mul_right _ h3
            have hKR := HR.kill hR hH
            have hKE := Evo.kill (β := β) (W := w.heap) hH
            have hlen3 : (H.set r none).length = H.length := set_len
            have hE2 := Evo.new hKR (.cells (old ++ cells ++ rest) et (0, 0)) (some (.arr ey.size (len + m) (catRow len row row')))
            have hR2 := HR.new_arr hKR (old ++ cells ++ rest) et ey.size (len + m) (catRow len row row') (by rw [hsize]; exact hle2) hcat.1 (fun i j hi hj => (hcat.2 i j hi hj).stays hKE)
            have hS := arr_slice (et := et) (sz := ey.size) (n := len + m) (N := len + m) (cap := newCap) (vs := old ++ cells ++ rest) (row := catRow len row row') (full := false) hKR (Nat.le_refl _) h3 (fun h => by cases h) (by rw [hsize]; exact Nat.le_refl _)
            rw [hlen3] at hE2 hR2 hS
            rw [hsx] at h2
            exact ⟨_, _, upd β H.length w.heap.size, _, _, h5, h2, hS, hR2, hKE.trans hE2, ⟨rfl, rfl, rfl⟩⟩
  | _ => cases h
end
end Go.Ev

set_option linter.unusedVariables false
set_option linter.unusedSimpArgs false
set_option linter.unusedSectionVars false
namespace Go.Ev
open Go
variable [Gh]

section
variable {ρ : Type} {P : Program} {o : Oper} {a : Act} {w : World} {Q : Exit → Act → World → Prop} {κ : AV → Heap → Option ρ} {x : ρ} {β : Nat → Nat} {H : Heap} {e : List (Option AV)} {c : Ctx}

theorem copyE_ok {st xt ty : TypeId} {et : Nat} {ey : Ty} (hC : CtxOK c P) (hR : HR β H w.heap) (hu : P.underlying st = some (.slice et)) (hT : TyOK P et ey) {dv xv : Value} {p y : AV} (hp : R β H w.heap dv p) (hy : R β H w.heap xv y)
    (hes : ∀ sz r off len full, p = .osl sz r off len full → sz = ey.size) (h : copyE H p y κ = some x) : AEnd κ x β H w (fun w => (Builtin.copy_ #[st, xt] ty #[dv, xv]).run P w) := by
  unfold copyE at h
  split at h
  case h_2 => cases h
  rename_i sy m row' sz' r off len full hsrc
  split at h
  case h_2 => cases h
  rename_i sx N row hH
  obtain ⟨hsy, hk⟩ := ite_some h
  clear h
  have hszz : sz' = ey.size := hes _ _ _ _ _ rfl
  cases hp with
  | osld _ _ _ _ _ _ _ _ _ _ _ _ _ hd => rw [hH] at hd; cases hd
  | osl _ _ _ cap _ N' mm row2 _ ad ha hH' hW hn hc hf hs hu' =>
    have hH2 : sz' = sx ∧ N' = N := by
      rcases hH' with h' | h' <;> rw [hH] at h' <;> cases h'
      exact ⟨rfl, rfl⟩
    obtain ⟨rfl, rfl⟩ := hH2
    obtain ⟨vs, et', fz, hw, hsz, hz, hrl, hrR⟩ := hR.arr r sz' N' row hH
    have hmm : mm = vs.size := by rw [cellsAt_of hw] at hW; exact (Option.some.inj hW).symm
    -- what is read
    have hread : ∃ cells : Array Value, cells.size = min m len * sz' ∧ (∀ v ∈ cells.toList, v.oneCell' = true) ∧ (Builtin.lenOf xv).run P w = .ok m w ∧ (Builtin.firstCells sz' (min m len) xv).run P w = .ok cells w ∧ RR β H w.heap sz' (min m len) cells row' := by
      by_cases hstr : ∃ s, y = .str s
      · obtain ⟨s, rfl⟩ := hstr
        have := hy.inv_str; subst this
        simp only [srcOf, Option.some.injEq, Prod.mk.injEq] at hsrc
        obtain ⟨rfl, rfl, rfl⟩ := hsrc
        have hex : (s.extract 0 (min s.size len)).size = min s.size len := by
          rw [ByteArray.size_extract]; omega
        have hsz1 : min s.size len = min s.size len * sz' := by
          rcases hsy with h1 | h1
          · rw [← h1]; omega
          · rw [h1]; simp
        refine ⟨(s.extract 0 (min s.size len)).data.map fun b => .int .u8 b.toNat, ?_, fun v hv => ?_, rfl, rfl, fun i hi => ?_, fun i j hi hj => ?_⟩
        · rw [Array.size_map]
          exact hex.trans hsz1
        · simp only [Array.toList_map, List.mem_map] at hv
          obtain ⟨b, _, rfl⟩ := hv; rfl
        · have : sz' = 1 := by rcases hsy with h1 | h1 <;> omega
          subst this
          exact ⟨rfl, rfl, rfl⟩
        · have : sz' = 1 := by rcases hsy with h1 | h1 <;> omega
          subst this
          have hj0 : j = 0 := by omega
          subst hj0
          simp only [Nat.mul_one, Nat.add_zero]
          have hi' : i < (s.extract 0 (min s.size len)).data.size := by
            show i < (s.extract 0 (min s.size len)).size
            rw [hex]; exact hi
          have hi2 : i < s.data.size := by show i < s.size; omega
          have hb : (s.extract 0 (min s.size len)).data[i]? = some s.data[i] := by
            have : (s.extract 0 (min s.size len)).data = s.data.extract 0 (min s.size len) := ByteArray.data_extract
            rw [this, Array.getElem?_extract, if_pos (by simp; omega)]
            simp [hi2]
          have : ((s.extract 0 (min s.size len)).data.map fun b => Value.int .u8 b.toNat).getD i undef = .int .u8 ((s.data.getD i 0).toNat : Int) := by
            rw [Array.getD_eq_getD_getElem?, Array.getElem?_map, hb, Array.getD_eq_getD_getElem?, Array.getElem?_eq_getElem hi2]; rfl
          rw [this]
          exact .int _ _
      · obtain ⟨ad', cap', vf, rfl, hsome, hcell, hl, hRr⟩ := src_cells hR hy hsrc (fun s hs => hstr ⟨s, hs⟩)
        by_cases hm0 : min m len = 0
        · refine ⟨#[], by rw [hm0]; simp, by simp, rfl, ?_, by rw [hm0]; exact ⟨fun i hi => by omega, fun i j hi => by omega⟩⟩
          rw [hm0]
          cases ad' with
          | none => rfl
          | some bb =>
            have := run_loadCells_list (P := P) (w := w) bb [] (fun j v hj => by simp at hj)
            simpa [Builtin.firstCells] using this
        · have hsy' : sy = sz' := hsy.resolve_right (by omega)
          subst hsy'
          have hRR : RR β H w.heap sy (min m len) (((List.range (min m len * sy)).map fun k => vf (k / sy) (k % sy)).toArray) row' :=
            ⟨fun i hi => hl i (by omega), fun i j hi hj => by rw [flat_getD hi hj]; exact hRr i j (by omega) hj⟩
          refine ⟨_, by simp, RR_one hRR (by simp), rfl, ?_, hRR⟩
          obtain ⟨bb, rfl⟩ := Option.isSome_iff_exists.1 (hsome (by omega))
          exact load_rows (n := min m len) (fun i j hi hj => hcell bb rfl i j (by omega) hj) w rfl
    obtain ⟨cells, c1, c2, c3, c4, c5⟩ := hread
    have hend : off * sz' + min m len * sz' ≤ vs.size := by
      rw [← Nat.add_mul, ← hmm]
      exact Nat.le_trans (Nat.mul_le_mul_right _ (by omega)) hs
    have hlen2 : off * sz' + cells.toList.length ≤ vs.size := by rw [Array.length_toList, c1]; exact hend
    have hst := run_storeCells_cells (P := P) (β r) (off * sz') cells.toList 0 w (fun j hj => by
        rw [cell_of hw, getD_some (by simp at hj; omega)]; rfl)
      (fun j hj => by
        simp only [World.frozen?, hw]
        simp only [Array.length_toList] at hj
        by_cases hlt : fz.1 < fz.2
        · rw [if_pos hlt] at hz
          have : ¬ fz.1 ≤ off * sz' + 0 + j := by omega
          rw [decide_eq_false this]; rfl
        · have : ¬ (fz.1 ≤ off * sz' + 0 + j ∧ off * sz' + 0 + j < fz.2) := by omega
          simpa using this) c2
    simp only [Nat.add_zero] at hst
    obtain ⟨cs', s1, s2, s3, s4, s5, s6⟩ := setCells_heap cells.toList (off * sz') w vs hw hlen2
    have hbut := but_setCells (w := w) (vs := cells.toList) (o := off * sz') (cs := vs) hw hlen2
    have hrr' : RR β H w.heap sz' N' cs' (fun i => if off ≤ i ∧ i < off + min m len then row' (i - off) else row i) := by
      refine ⟨fun i hi => ?_, fun i j hi hj => ?_⟩
      · simp only
        split
        · exact c5.1 (i - off) (by omega)
        · exact hrl i hi
      · have hi2 := row_in (sz := sz') hi
        rw [s3 _ (by omega), Array.length_toList, c1]
        simp only
        by_cases hr : off ≤ i ∧ i < off + min m len
        · rw [if_pos hr]
          have h3 := row_in (i := i - off) (n := min m len) (sz := sz') (by omega)
          have h4 : i * sz' + j = off * sz' + ((i - off) * sz' + j) := by
            have : i = off + (i - off) := by omega
            rw [this, Nat.add_mul, show off + (i - off) - off = i - off by omega]; omega
          rw [if_pos (by omega), h4, Nat.add_sub_cancel_left]
          have := c5.2 (i - off) j (by omega) hj
          simpa [Array.getD_eq_getD_getElem?, List.getD_eq_getElem?_getD] using this
        · rw [if_neg hr]
          have : ¬ (off * sz' ≤ i * sz' + j ∧ i * sz' + j < off * sz' + min m len * sz') := by
            by_cases hlo : i < off
            · have := row_in (sz := sz') hlo; omega
            · have h5 : off + min m len ≤ i := by omega
              have := Nat.mul_le_mul_right sz' h5
              rw [Nat.add_mul] at this; omega
          rw [if_neg this]
          exact hrR i j hi hj
    have hE := Evo.set_arr hR hH (fun i => if off ≤ i ∧ i < off + min m len then row' (i - off) else row i) hbut
    by_cases hz0 : 0 < cap
    · have had := ha hz0
      refine ⟨_, _, β, _, w.setCells (β r) (off * sz') cells.toList, ?_, hk, .int _ _, HR.set_arr hR hH _ hbut cs' et' fz s1 (by omega) (by rw [s2]; exact hz) hrr'.1 hrr'.2, hE, s6⟩
      have hmn : Nat.min m len = min m len := rfl
      simp only [Builtin.copy_, List.getElem?_toArray, List.getElem?_cons_zero, List.getElem?_cons_succ, Sem.run_bind, run_underlying hu w, Result.andThen_ok, hT.sizeOf, ← hszz, c3, hmn, c4, had, hst, Sem.run_pure]
      rfl
    · have hl0 : len = 0 := by omega
      have hc0 : cells.toList = [] := by rw [hl0] at c1; simpa using c1
      have hsame : w.setCells (β r) (off * sz') cells.toList = w := by rw [hc0]; rfl
      rw [hsame] at s1 s6 hbut hE
      refine ⟨_, _, β, _, w, ?_, hk, .int _ _, HR.set_arr hR hH _ hbut cs' et' fz s1 (by omega) (by rw [s2]; exact hz) hrr'.1 hrr'.2, hE, s6⟩
      have hmn : Nat.min m len = min m len := rfl
      cases ad with
      | none =>
        simp only [Builtin.copy_, List.getElem?_toArray, List.getElem?_cons_zero, List.getElem?_cons_succ, Sem.run_bind, run_underlying hu w, Result.andThen_ok, hT.sizeOf, ← hszz, c3, hmn, c4, Sem.run_pure]
        rfl
      | some bb =>
        simp only [Builtin.copy_, List.getElem?_toArray, List.getElem?_cons_zero, List.getElem?_cons_succ, Sem.run_bind, run_underlying hu w, Result.andThen_ok, hT.sizeOf, ← hszz, c3, hmn, c4, Sem.run_pure, hc0]
        rfl
  
theorem clearE_ok {ts : Array TypeId} {st ty : TypeId} {et : Nat} {ey : Ty} (hC : CtxOK c P) (hR : HR β H w.heap) (hts : ts[0]? = some st) (hu : P.underlying st = some (.slice et)) (hT : TyOK P et ey) {dv : Value} {p : AV} (hp : R β H w.heap dv p)
    (hes : ∀ sz r off len full, p = .osl sz r off len full → sz = ey.size) (h : clearE H ey.zero p κ = some x) : AEnd κ x β H w (fun w => (Builtin.clear_ ts ty #[dv]).run P w) := by
  unfold clearE at h
  split at h
  case h_2 => cases h
  rename_i sz' r off len full
  split at h
  case h_2 => cases h
  rename_i sx N row hH
  have hk := h
  clear h
  have hszz : sz' = ey.size := hes _ _ _ _ _ rfl
  cases hp with
  | osld _ _ _ _ _ _ _ _ _ _ _ _ _ hd => rw [hH] at hd; cases hd
  | osl _ _ _ cap _ N' mm row2 _ ad ha hH' hW hn hc hf hs hu' =>
    have hH2 : sz' = sx ∧ N' = N := by
      rcases hH' with h' | h' <;> rw [hH] at h' <;> cases h'
      exact ⟨rfl, rfl⟩
    obtain ⟨rfl, rfl⟩ := hH2
    obtain ⟨vs, et', fz, hw, hsz, hz, hrl, hrR⟩ := hR.arr r sz' N' row hH
    have hmm : mm = vs.size := by rw [cellsAt_of hw] at hW; exact (Option.some.inj hW).symm
    obtain ⟨i0, hi0, hisz, hiby, z, hzz, hzs, hzR⟩ := hT.info
    have hzero : ∀ w', (zeroValue et).run P w' = .ok z w' := fun w' => by simp [zeroValue, typeInfo, hi0, hzz]
    obtain ⟨cells, hcells⟩ : ∃ cells, cells = Builtin.zeroCells z.cells len := ⟨_, rfl⟩
    have c5 : RR β H w.heap sz' len cells (fun _ => ey.zero) := by
      rw [hcells, hszz]
      have := zeros_rows (P := P) hT (i := i0) hzs (fun β H W j hj => hzR (β := β) (H := H) (W := W) (j := j) hj) (β := β) (H := H) len w.heap
      unfold Builtin.zeroCells
      rw [← hzs] at this ⊢
      exact this
    have c1 : cells.size = len * sz' := by rw [hcells, hszz]; simp [Builtin.zeroCells, hzs]
    have c2 : ∀ v ∈ cells.toList, v.oneCell' = true := RR_one c5 c1
    have hend : off * sz' + len * sz' ≤ vs.size := by
      rw [← Nat.add_mul, ← hmm]
      exact Nat.le_trans (Nat.mul_le_mul_right _ (by omega)) hs
    have hlen2 : off * sz' + cells.toList.length ≤ vs.size := by rw [Array.length_toList, c1]; exact hend
    have hst := run_storeCells_cells (P := P) (β r) (off * sz') cells.toList 0 w (fun j hj => by
        rw [cell_of hw, getD_some (by simp at hj; omega)]; rfl)
      (fun j hj => by
        simp only [World.frozen?, hw]
        simp only [Array.length_toList] at hj
        by_cases hlt : fz.1 < fz.2
        · rw [if_pos hlt] at hz
          have : ¬ fz.1 ≤ off * sz' + 0 + j := by omega
          rw [decide_eq_false this]; rfl
        · have : ¬ (fz.1 ≤ off * sz' + 0 + j ∧ off * sz' + 0 + j < fz.2) := by omega
          simpa using this) c2
    simp only [Nat.add_zero] at hst
    obtain ⟨cs', s1, s2, s3, s4, s5, s6⟩ := setCells_heap cells.toList (off * sz') w vs hw hlen2
    have hbut := but_setCells (w := w) (vs := cells.toList) (o := off * sz') (cs := vs) hw hlen2
    have hrr' : RR β H w.heap sz' N' cs' (fun i => if off ≤ i ∧ i < off + len then ey.zero else row i) := by
      refine ⟨fun i hi => ?_, fun i j hi hj => ?_⟩
      · simp only
        split
        · exact c5.1 (i - off) (by omega)
        · exact hrl i hi
      · have hi2 := row_in (sz := sz') hi
        rw [s3 _ (by omega), Array.length_toList, c1]
        simp only
        by_cases hr : off ≤ i ∧ i < off + len
        · rw [if_pos hr]
          have h3 := row_in (i := i - off) (n := len) (sz := sz') (by omega)
          have h4 : i * sz' + j = off * sz' + ((i - off) * sz' + j) := by
            have : i = off + (i - off) := by omega
            rw [this, Nat.add_mul, show off + (i - off) - off = i - off by omega]; omega
          rw [if_pos (by omega), h4, Nat.add_sub_cancel_left]
          have := c5.2 (i - off) j (by omega) hj
          simpa [Array.getD_eq_getD_getElem?, List.getD_eq_getElem?_getD] using this
        · rw [if_neg hr]
          have : ¬ (off * sz' ≤ i * sz' + j ∧ i * sz' + j < off * sz' + len * sz') := by
            by_cases hlo : i < off
            · have := row_in (sz := sz') hlo; omega
            · have h5 : off + len ≤ i := by omega
              have := Nat.mul_le_mul_right sz' h5
              rw [Nat.add_mul] at this; omega
          rw [if_neg this]
          exact hrR i j hi hj
    have hE := Evo.set_arr hR hH (fun i => if off ≤ i ∧ i < off + len then ey.zero else row i) hbut
    by_cases hz0 : len = 0
    · have hc0 : cells.toList = [] := by rw [hz0] at c1; simpa using c1
      have hsame : w.setCells (β r) (off * sz') cells.toList = w := by rw [hc0]; rfl
      rw [hsame] at s1 s6 hbut hE
      refine ⟨_, _, β, _, w, ?_, hk, .tup #[] [] rfl (fun j hj => by simp at hj), HR.set_arr hR hH _ hbut cs' et' fz s1 (by omega) (by rw [s2]; exact hz) hrr'.1 hrr'.2, hE, s6⟩
      subst hz0
      cases ad with
      | none =>
        simp only [Builtin.clear_, hts, List.getElem?_toArray, List.getElem?_cons_zero, Sem.run_bind, run_underlying hu w, Result.andThen_ok, Sem.run_pure]
      | some bb =>
        simp only [Builtin.clear_, hts, List.getElem?_toArray, List.getElem?_cons_zero, Sem.run_bind, run_underlying hu w, Result.andThen_ok, Sem.run_pure]
    · have had := ha (by omega)
      refine ⟨_, _, β, _, w.setCells (β r) (off * sz') cells.toList, ?_, hk, .tup #[] [] rfl (fun j hj => by simp at hj), HR.set_arr hR hH _ hbut cs' et' fz s1 (by omega) (by rw [s2]; exact hz) hrr'.1 hrr'.2, hE, s6⟩
      obtain ⟨len', rfl⟩ : ∃ l, len = l + 1 := ⟨len - 1, by omega⟩
      subst had
      simp only [Builtin.clear_, hts, List.getElem?_toArray, List.getElem?_cons_zero, Sem.run_bind, run_underlying hu w, Result.andThen_ok, hzero w, ← hcells, hst, Sem.run_pure]
theorem lenAV_ok {t ty : TypeId} (hC : CtxOK c P) {v : Value} {y : AV} (hy : R β H w.heap v y) {n : Int} (h : lenAV (c.kOf t) y = some n) (ts : Array TypeId) (hts : ts[0]? = some t) : (Builtin.len_ ts ty #[v]).run P w = .ok (.int .i64 n) w := by
  unfold lenAV at h
  split at h
  · rename_i et sz n' row full hk
    have hd : P.underlying t = some (.slice et) := kOf_desc hC hk
    cases h
    cases hy <;> simp [Builtin.len_, hts, run_underlying hd w, goInt]
  · rename_i et sz r off n' full hk
    have hd : P.underlying t = some (.slice et) := kOf_desc hC hk
    cases h
    cases hy <;> simp [Builtin.len_, hts, run_underlying hd w, goInt]
  · rename_i et sz n' cs hk
    have hd : P.underlying t = some (.slice et) := kOf_desc hC hk
    cases h
    cases hy
    simp [Builtin.len_, hts, run_underlying hd w, goInt]
  · rename_i s hk
    have hd : P.underlying t = some .string := kOf_desc hC hk
    cases h
    cases hy
    simp [Builtin.len_, hts, run_underlying hd w, goInt]
  · cases h
theorem capAV_ok {t ty : TypeId} (hC : CtxOK c P) {v : Value} {y : AV} (hy : R β H w.heap v y) {n : Int} (h : capAV (c.kOf t) y = some n) (ts : Array TypeId) (hts : ts[0]? = some t) : (Builtin.cap_ ts ty #[v]).run P w = .ok (.int .i64 n) w := by
  unfold capAV at h
  split at h
  · rename_i et sz n' row hk
    have hd : P.underlying t = some (.slice et) := kOf_desc hC hk
    cases h
    cases hy with
    | sl0 _ _ _ _ _ hf => simp [Builtin.cap_, hts, run_underlying hd w, goInt, hf rfl]
    | sl _ _ _ _ _ _ _ _ _ _ _ _ _ _ hf _ _ _ => simp [Builtin.cap_, hts, run_underlying hd w, goInt, hf rfl]
  · rename_i et sz r off n' hk
    have hd : P.underlying t = some (.slice et) := kOf_desc hC hk
    cases h
    cases hy with
    | osl _ _ _ _ _ _ _ _ _ _ _ _ _ _ _ hf _ _ => simp [Builtin.cap_, hts, run_underlying hd w, goInt, hf rfl]
    | osld _ _ _ _ _ _ _ _ _ _ _ hf _ _ => simp [Builtin.cap_, hts, run_underlying hd w, goInt, hf rfl]
  · cases h
end
end Go.Ev

set_option linter.unusedVariables false
set_option linter.unusedSimpArgs false
set_option linter.unusedSectionVars false
namespace Go.Ev
open Go
variable [Gh]

section
variable {ρ : Type} {P : Program} {o : Oper} {a : Act} {w : World} {Q : Exit → Act → World → Prop} {κ : AV → Heap → Option ρ} {x : ρ} {β : Nat → Nat} {H : Heap} {e : List (Option AV)} {c : Ctx}

theorem max2_ok {W : Array Obj} {u v : AV} {a b : Value} (ha : R β H W a u) (hb : R β H W b v) {r : AV} (h : maxAV true u v = some r) : ∃ cv, (Builtin.max2 a b).run P w = .ok cv w ∧ R β H W cv r := by
  unfold maxAV at h
  split at h
  · obtain ⟨hkk, h2⟩ := ite_some h
    subst hkk
    have h3 := Option.some.inj h2
    subst h3
    have := ha.inv_int; subst this
    have := hb.inv_int; subst this
    exact ⟨_, rfl, .int _ _⟩
  · cases h
    have := ha.inv_str; subst this
    have := hb.inv_str; subst this
    refine ⟨_, ?_, .str _⟩
    simp only [Builtin.max2, Op.stringOp, Sem.run_bind, Sem.run_pure, Result.andThen_ok, asBool, if_true]
    cases hl : bl _ _ <;> simp [hl, bl] at * <;> simp [hl]
  · cases h
theorem min2_ok {W : Array Obj} {u v : AV} {a b : Value} (ha : R β H W a u) (hb : R β H W b v) {r : AV} (h : maxAV false u v = some r) : ∃ cv, (Builtin.min2 a b).run P w = .ok cv w ∧ R β H W cv r := by
  unfold maxAV at h
  split at h
  · obtain ⟨hkk, h2⟩ := ite_some h
    subst hkk
    have h3 := Option.some.inj h2
    subst h3
    have := ha.inv_int; subst this
    have := hb.inv_int; subst this
    exact ⟨_, rfl, .int _ _⟩
  · cases h
    have := ha.inv_str; subst this
    have := hb.inv_str; subst this
    refine ⟨_, ?_, .str _⟩
    simp only [Builtin.min2, Op.stringOp, Sem.run_bind, Sem.run_pure, Result.andThen_ok, asBool, bl_le, Bool.false_eq_true, if_false]
    cases hl : bl _ _ <;> simp [hl]
  · cases h
theorem foldMax_ok {mx : Bool} {W : Array Obj} : ∀ {us : List AV} {vs : List Value} {u : AV} {a : Value}, R β H W a u → vs.length = us.length → (∀ j, j < us.length → R β H W (vs.getD j undef) (us.getD j .und)) → ∀ {r : AV}, foldMax mx u us = some r →
    ∃ cv, (vs.foldlM (if mx then Builtin.max2 else Builtin.min2) a).run P w = .ok cv w ∧ R β H W cv r
  | [], [], u, a, ha, _, _, r, h => by cases h; exact ⟨a, rfl, ha⟩
  | u' :: us, v :: vs, u, a, ha, hl, hR, r, h => by
    unfold foldMax at h
    split at h
    · rename_i z hz
      have h0 := hR 0 (by simp)
      simp at h0
      have : ∃ cv, ((if mx then Builtin.max2 else Builtin.min2) a v).run P w = .ok cv w ∧ R β H W cv z := by
        cases mx
        · exact min2_ok ha h0 hz
        · exact max2_ok ha h0 hz
      obtain ⟨cv, r1, r2⟩ := this
      obtain ⟨cv', r3, r4⟩ := foldMax_ok (us := us) (vs := vs) r2 (by simpa using hl) (fun j hj => by simpa using hR (j + 1) (by simpa using hj)) h
      refine ⟨cv', ?_, r4⟩
      rw [List.foldlM_cons, Sem.run_bind, r1, Result.andThen_ok, r3]
    · cases h
  | [], _ :: _, _, _, _, hl, _, _, _ => by simp at hl
  | _ :: _, [], _, _, _, hl, _, _, _ => by simp at hl

/-- arguments as_ told -/
def AR (β : Nat → Nat) (H : Heap) (W : Array Obj) (vs : Array Value) (as_ : List AV) : Prop := vs.size = as_.length ∧ ∀ j, j < as_.length → R β H W (vs.getD j undef) (as_.getD j .und)

/-- a builtin's run -/
def builtinRun (b : Builtin) (ts : Array TypeId) (ty : TypeId) (vs : Array Value) : Sem Value :=
  match b with
  | .len => Builtin.len_ ts ty vs
  | .cap => Builtin.cap_ ts ty vs
  | .max => Builtin.max_ ts ty vs
  | .min => Builtin.min_ ts ty vs
  | .append => Builtin.append_ ts ty vs
  | .copy => Builtin.copy_ ts ty vs
  | .clear => Builtin.clear_ ts ty vs
  | _ => stuck ""
theorem two {vs : Array Value} {u v : AV} (h : AR β H w.heap vs [u, v]) : ∃ p q, vs = #[p, q] ∧ R β H w.heap p u ∧ R β H w.heap q v := by
  obtain ⟨h1, h2⟩ := h
  obtain ⟨l⟩ := vs
  match l, h1 with
  | [p, q], _ => exact ⟨p, q, rfl, by simpa using h2 0 (by simp), by simpa using h2 1 (by simp)⟩
theorem one {vs : Array Value} {u : AV} (h : AR β H w.heap vs [u]) : ∃ p, vs = #[p] ∧ R β H w.heap p u := by
  obtain ⟨h1, h2⟩ := h
  obtain ⟨l⟩ := vs
  match l, h1 with
  | [p], _ => exact ⟨p, rfl, by simpa using h2 0 (by simp)⟩
theorem AEnd.value (hR : HR β H w.heap) {run : World → Result Value} {cv : Value} {av : AV} (hr : run w = .ok cv w) (hv : R β H w.heap cv av) (hk : κ av H = some x) : AEnd κ x β H w run :=
  ⟨cv, av, β, H, w, hr, hk, hv, hR, Evo.refl _ _ _, Same.refl _⟩

theorem builtinE_ok (hC : CtxOK c P) {b : Builtin} {ts : Array TypeId} {ty : TypeId} {vs : Array Value} {as_ : List AV} (hR : HR β H w.heap) (hA : AR β H w.heap vs as_)
    (h : builtinE c b ts.toList as_ H κ = some x) : (∀ cs, builtin b ts ty cs vs = do pure (.value (← builtinRun b ts ty vs))) ∧ AEnd κ x β H w (fun w => (builtinRun b ts ty vs).run P w) := by
  obtain ⟨tl⟩ := ts
  unfold builtinE at h
  split at h
  · rename_i t tl u htl
    simp only at htl
    subst htl
    obtain ⟨n, hn, hk⟩ := opt_some h
    obtain ⟨p, rfl, hp⟩ := one hA
    have hr : (Builtin.len_ ⟨t :: tl⟩ ty #[p]).run P w = _ := lenAV_ok hC hp hn _ (by simp)
    exact ⟨fun _ => rfl, AEnd.value hR hr (.int _ _) hk⟩
  · rename_i t tl u htl
    simp only at htl
    subst htl
    obtain ⟨n, hn, hk⟩ := opt_some h
    obtain ⟨p, rfl, hp⟩ := one hA
    have hr : (Builtin.cap_ ⟨t :: tl⟩ ty #[p]).run P w = _ := capAV_ok hC hp hn _ (by simp)
    exact ⟨fun _ => rfl, AEnd.value hR hr (.int _ _) hk⟩
  · rename_i u us
    obtain ⟨r, hr, hk⟩ := opt_some h
    obtain ⟨h1, h2⟩ := hA
    obtain ⟨l⟩ := vs
    match l, h1 with
    | p :: l, h1 =>
      obtain ⟨cv, r1, r2⟩ := foldMax_ok (P := P) (w := w) (mx := true) (us := us) (vs := l) (by simpa using h2 0 (by simp)) (by simpa using h1) (fun j hj => by simpa using h2 (j + 1) (by simpa using hj)) hr
      exact ⟨fun _ => rfl, AEnd.value hR r1 r2 hk⟩
  · rename_i u us
    obtain ⟨r, hr, hk⟩ := opt_some h
    obtain ⟨h1, h2⟩ := hA
    obtain ⟨l⟩ := vs
    match l, h1 with
    | p :: l, h1 =>
      obtain ⟨cv, r1, r2⟩ := foldMax_ok (P := P) (w := w) (mx := false) (us := us) (vs := l) (by simpa using h2 0 (by simp)) (by simpa using h1) (fun j hj => by simpa using h2 (j + 1) (by simpa using hj)) hr
      exact ⟨fun _ => rfl, AEnd.value hR r1 r2 hk⟩
  · rename_i st xt u v htl
    simp only at htl
    subst htl
    obtain ⟨p, q, rfl, hp, hq⟩ := two hA
    refine ⟨fun _ => rfl, ?_⟩
    split at h
    case h_2 => cases h
    rename_i et _ _ _ _ hst
    split at h
    case h_2 => cases h
    rename_i ey hey
    have hu : P.underlying st = some (.slice et) := (hC.ty st _ hst).desc
    have hT := hC.ty et ey hey
    split at h
    · rename_i kk m
      obtain ⟨hi, h⟩ := ite_some h
      obtain ⟨hb, h⟩ := bif_some h
      simp only [Bool.and_eq_true, decide_eq_true_eq] at hb
      obtain ⟨hm0, hroom⟩ := hb
      obtain ⟨r1, r2⟩ := roomOf_iff hroom
      have := hq.inv_int; subst this
      obtain ⟨k, hk⟩ : ∃ k, c.kOf xt = some (.int k) := by
        unfold isInt at hi
        split at hi
        · exact ⟨_, ‹_›⟩
        · cases hi
      have hxt : P.underlying xt = some (.int k) := kOf_desc hC hk
      obtain ⟨cells, z1, z2⟩ := zero_app (β := β) (H := H) (w := w) (kk := kk) hC hT hxt r2 r1 w.heap
      have hmm : ((m.toNat : Nat) : Int) = m := by omega
      rw [hmm] at z1
      exact appendE_ok (ty := ty) hR hu hT z1 z2 hp h
    · obtain ⟨hi, h⟩ := ite_some h
      obtain ⟨⟨sy, m, row'⟩, hsrc, h⟩ := opt_some h
      simp only at h
      obtain ⟨hs, h⟩ := ite_some h
      have : ∃ d, P.underlying xt = some d ∧ ∀ k, d ≠ .int k := by
        unfold noInt at hi
        split at hi
        · rename_i hk; exact ⟨.string, kOf_desc hC hk, fun k => by simp⟩
        · rename_i e' hk; exact ⟨.slice e', kOf_desc hC hk, fun k => by simp⟩
        · cases hi
      obtain ⟨d, hd, hd'⟩ := this
      obtain ⟨cells, z1, z2⟩ := src_app hC hR hd hd' hq hsrc hs
      exact appendE_ok (ty := ty) hR hu hT z1 z2 hp h
  · rename_i st xt u v htl
    simp only at htl
    subst htl
    obtain ⟨p, q, rfl, hp, hq⟩ := two hA
    refine ⟨fun _ => rfl, ?_⟩
    split at h
    case h_2 => cases h
    rename_i et _ _ _ _ hst
    split at h
    case h_2 => cases h
    rename_i ey sz r off len full hey
    obtain ⟨hsz, h⟩ := ite_some h
    have hu : P.underlying st = some (.slice et) := (hC.ty st _ hst).desc
    exact copyE_ok (ty := ty) hC hR hu (hC.ty et ey hey) hp hq (fun _ _ _ _ _ he => by cases he; exact hsz) h
  · rename_i st tl u htl
    simp only at htl
    subst htl
    obtain ⟨p, rfl, hp⟩ := one hA
    refine ⟨fun _ => rfl, ?_⟩
    split at h
    case h_2 => cases h
    rename_i et _ _ _ _ hst
    split at h
    case h_2 => cases h
    rename_i ey sz r off len full hey
    obtain ⟨hsz, h⟩ := ite_some h
    have hu : P.underlying st = some (.slice et) := (hC.ty st _ hst).desc
    exact clearE_ok (ts := ⟨st :: tl⟩) (ty := ty) hC hR (by simp) hu (hC.ty et ey hey) hp (fun _ _ _ _ _ he => by cases he; exact hsz) h
  · cases h

/-! ### calls -/
/-- where a call ends -/
def CEnd (κ : AV → Heap → Option ρ) (x : ρ) (β : Nat → Nat) (H : Heap) (w : World) (en : Ending) (w' : World) : Prop :=
  ∃ v av β' H', en = .returned v ∧ κ av H' = some x ∧ R β' H' w'.heap v av ∧ HR β' H' w'.heap ∧ Evo β H w.heap β' H' w'.heap ∧ Same w w'
/-- what is known of a table of calls -/
def CallOK (P : Program) (call : Nat → List AV → Heap → (AV → Heap → Option ρ) → Option ρ) : Prop :=
  ∀ f as_ H κ x, call f as_ H κ = some x → (∃ fn, P.funcs[f]? = some fn ∧ (fn.name == "runtime.NumGoroutine") = false ∧ fn.body.isNone = false) ∧
    ∀ β vs w, HR β H w.heap → AR β H w.heap vs as_ → Calls P f vs w (CEnd κ x β H w)

theorem run_callFunc {f : Nat} {fn : Func} (h1 : P.funcs[f]? = some fn) (h2 : (fn.name == "runtime.NumGoroutine") = false) (h3 : fn.body.isNone = false) (vs : Array Value) (w : World) : (callFunc f vs).run P w = .ok (.enter f vs) w := by
  have h2' : fn.name ≠ "runtime.NumGoroutine" := by simpa using h2
  have h3' : fn.body ≠ none := by intro h; rw [h] at h3; cases h3
  simp [callFunc, h1, h2', h3']

theorem op_call (hC : CtxOK c P) {call : Nat → List AV → Heap → (AV → Heap → Option ρ) → Option ρ} (hcall : CallOK P call) {cl : Call} (ho : o.op = .call cl) (hR : HR β H w.heap) (hE : ER β H w.heap a.tmps e) {κ : Option AV → Heap → Option ρ}
    (h : opt (c.opdsT e cl.args.toList cl.argTypes.toList) (fun as_ => match cl.callee with
    | .builtin b => builtinE c b cl.argTypes.toList as_ H fun v H => κ (some v) H
    | .value f => opt (opd e f) fun g => match g with
      | .fn f first caps => call f (first ++ as_ ++ caps) H fun v H => κ (some v) H
      | _ => none
    | .invoke .. => none) = some x) : Goal P o a w Q κ x β H := by
  obtain ⟨as_, has, h⟩ := opt_some h
  obtain ⟨a1, a2⟩ := opdsT_ok hE has
  have hA : AR β H w.heap (cl.args.map a.eval) as_ := by
    refine ⟨by simpa using a1, fun j hj => ?_⟩
    have := a2 j hj
    simpa [Array.getD_eq_getD_getElem?, List.getD_eq_getElem?_getD] using this
  split at h
  · rename_i b hb
    obtain ⟨h1, cv, av, β', H', w', hr, hk, hv, hR', hE', hS⟩ := builtinE_ok (ty := o.type) hC hR hA h
    refine Goal.moved hR' hE' hS (cv := cv) (ov := some av) ?_ hv hk
    unfold execOp
    rw [ho]
    simp only [resolve, hb, Sem.run_bind, Sem.run_pure, Result.andThen_ok, invoke]
    simp only at hr
    rw [h1, Sem.run_bind, hr, Result.andThen_ok, Sem.run_pure]
  · rename_i f hf
    obtain ⟨g, hg, h⟩ := opt_some h
    split at h
    case h_2 => cases h
    rename_i fi first caps
    have hgv := opd_ok hE hg
    obtain ⟨⟨fn, f1, f2, f3⟩, hc⟩ := hcall _ _ _ _ _ h
    generalize hfv : a.eval f = fv at hgv
    cases hgv with
    | fn _ vs us _ _ hv hu hRv hRu =>
      have hA' : AR β H w.heap (vs ++ cl.args.map a.eval ++ us) (first ++ as_ ++ caps) := by
        obtain ⟨s1, s2⟩ := hA
        refine ⟨by simp only [Array.size_append, List.length_append]; omega, fun j hj => ?_⟩
        simp only [List.length_append] at hj
        rw [Array.getD_eq_getD_getElem?, List.getD_eq_getElem?_getD]
        by_cases h1 : j < first.length
        · rw [Array.getElem?_append_left (by simp only [Array.size_append]; omega), Array.getElem?_append_left (by omega), List.getElem?_append_left (by simp only [List.length_append]; omega), List.getElem?_append_left h1]
          have := hRv j h1
          rwa [Array.getD_eq_getD_getElem?, List.getD_eq_getElem?_getD] at this
        · by_cases h2 : j < first.length + as_.length
          · rw [Array.getElem?_append_left (by simp only [Array.size_append]; omega), Array.getElem?_append_right (by omega), List.getElem?_append_left (by simp only [List.length_append]; omega), List.getElem?_append_right (by omega), hv]
            have := s2 (j - first.length) (by omega)
            rwa [Array.getD_eq_getD_getElem?, List.getD_eq_getElem?_getD] at this
          · rw [Array.getElem?_append_right (by simp only [Array.size_append]; omega), List.getElem?_append_right (by simp only [List.length_append]; omega)]
            have e1 : j - (vs ++ cl.args.map a.eval).size = j - (first ++ as_).length := by simp only [Array.size_append, List.length_append]; omega
            rw [e1]
            have := hRu (j - (first ++ as_).length) (by simp only [List.length_append]; omega)
            rwa [Array.getD_eq_getD_getElem?, List.getD_eq_getElem?_getD] at this
      have hcalls := hc β _ w hR hA'
      intro next hn
      unfold Oper.wp
      have hrun : (execOp a.eval o).run P w = .ok (.enter fi (vs ++ cl.args.map a.eval ++ us)) w := by
        unfold execOp
        rw [ho]
        simp only [resolve, hf, Deferred.ofValue, hfv, Sem.run_bind, Sem.run_pure, Result.andThen_ok, invoke]
        exact run_callFunc f1 f2 f3 _ w
      rw [hrun, Oper.upon_enter]
      refine Calls.mono hcalls ?_
      rintro en w' ⟨v, av, β', H', rfl, hk, hv', hR', hE', hS⟩
      exact hn v (some av) β' H' w' hk hv' hR' hE' hS
  · cases h
end
end Go.Ev

set_option linter.unusedVariables false
set_option linter.unusedSimpArgs false
set_option linter.unusedSectionVars false
namespace Go.Ev
open Go
variable [Gh]

section
variable {ρ : Type} {P : Program} {o : Oper} {a : Act} {w : World} {Q : Exit → Act → World → Prop} {κ : Option AV → Heap → Option ρ} {x : ρ} {β : Nat → Nat} {H : Heap} {e : List (Option AV)} {c : Ctx}

theorem opE_ok (hC : CtxOK c P) (hM : CmpAll c P) {call : Nat → List AV → Heap → (AV → Heap → Option ρ) → Option ρ} (hcall : CallOK P call) (hR : HR β H w.heap) (hE : ER β H w.heap a.tmps e) {kn : Kn} (hK : KnOK kn a.tmps)
    (h : opE c call o kn e H κ = some x) : Goal P o a w Q κ x β H := by
  unfold opE at h
  split at h
  · rename_i y ho; exact op_move (.inl ho) hR hE h
  · rename_i y ho; exact op_move (.inr ho) hR hE h
  · rename_i y p q ho; exact op_pick ho hR hE hK h
  · rename_i t ho; exact op_alloc hC ho hR h
  · rename_i t y ho; exact op_box ho hR hE h
  · rename_i t parts ho; exact op_build hC ho hR hE h
  · rename_i t n parts ho; exact op_buildSlice hC ho hR hE h
  · rename_i t y ho; exact op_load hC ho hR hE h
  · rename_i t y z ho; exact op_store hC ho hR hE h
  · rename_i y ho; exact op_nilCheck ho hR hE h
  · rename_i op t y z u ho; exact op_binOp hC hM ho hR hE h
  · rename_i op t y ho; exact op_unOp ho hR hE h
  · rename_i s d y ho; exact op_convert hC ho hR hE h
  · rename_i f first caps ho; exact op_makeFunc ho hR hE h
  · rename_i t l m ho; exact op_makeSlice hC ho hR hE h
  · rename_i t y lo hi mx ho; exact op_slice hC ho hR hE h
  · rename_i s y f ho; exact op_fieldAddr hC ho hR hE h
  · rename_i s y f ho; exact op_field hC ho hR hE h
  · rename_i t y z ho; exact op_indexAddr hC ho hR hE h
  · rename_i t y z ho; exact op_index ho hC hR hE h
  · rename_i y i ho; exact op_extract ho hR hE h
  · rename_i cl ho; exact op_call hC hcall ho hR hE h
  · cases h
end
end Go.Ev

set_option linter.unusedVariables false
set_option linter.unusedSimpArgs false
set_option linter.unusedSectionVars false
namespace Go.Ev
open Go

abbrev Call1 := Nat → List AV → Heap → Option (AV × Heap)
def Call1.on (g : Call1) {ρ : Type} (f : Nat) (as_ : List AV) (H : Heap) (κ : AV → Heap → Option ρ) : Option ρ := (g f as_ H).bind fun p => κ p.1 p.2

section
variable {ρ : Type} {c : Ctx}
theorem opt_bind {α β : Type} (x : Option α) (f : α → Option β) (g : β → Option ρ) : (opt x f).bind g = opt x fun v => (f v).bind g := by cases x <;> rfl
theorem chk_bind {β : Type} (x : Option (Bool × AV)) (f : AV → Option β) (g : β → Option ρ) : (chk x f).bind g = chk x fun v => (f v).bind g := by
  rcases x with _ | ⟨b, v⟩
  · rfl
  · cases b <;> rfl
theorem ite_bind {β : Type} (p : Prop) [Decidable p] (x : Option β) (g : β → Option ρ) : (if p then x else none).bind g = if p then x.bind g else none := by split <;> rfl
theorem bif_bind {β : Type} (b : Bool) (x y : Option β) (g : β → Option ρ) : (bif b then x else y).bind g = bif b then x.bind g else y.bind g := by cases b <;> rfl
theorem pair_bind {α β : Type} (a : α) (b : β) (κ : α → β → Option ρ) : ((some (a, b) : Option (α × β)).bind fun p => κ p.1 p.2) = κ a b := rfl

theorem appendE_bind (sz bytes : Nat) (H : Heap) (x : AV) (m : Nat) (row' : Nat → List AV) (κ : AV → Heap → Option ρ) :
    appendE sz bytes H x m row' κ = (appendE sz bytes H x m row' fun v H => some (v, H)).bind fun p => κ p.1 p.2 := by
  unfold appendE
  cases x <;> simp only [ite_bind, bif_bind, pair_bind, Option.bind_none]
  split <;> simp only [ite_bind, bif_bind, pair_bind, Option.bind_none]
theorem copyE_bind (H : Heap) (x y : AV) (κ : AV → Heap → Option ρ) : copyE H x y κ = (copyE H x y fun v H => some (v, H)).bind fun p => κ p.1 p.2 := by
  unfold copyE
  split
  · rename_i h1 h2
    split <;> simp only [ite_bind, pair_bind, Option.bind_none]
  · rfl
theorem clearE_bind (H : Heap) (z : List AV) (x : AV) (κ : AV → Heap → Option ρ) : clearE H z x κ = (clearE H z x fun v H => some (v, H)).bind fun p => κ p.1 p.2 := by
  unfold clearE
  split
  · split <;> rfl
  · rfl
theorem pickE_bind (kn : Kn) (y : Operand) (a b d : Option AV) (κ : AV → Option ρ) : pickE kn y a b d κ = (pickE kn y a b d some).bind κ := by
  unfold pickE
  split
  · split <;> rfl
  · split <;> rfl
  · split
    · rfl
    · simp only [bif_bind]
      congr 1 <;> split <;> rfl
    · rfl
theorem builtinE_bind (b : Builtin) (ats : List Nat) (as_ : List AV) (H : Heap) (κ : AV → Heap → Option ρ) :
    builtinE c b ats as_ H κ = (builtinE c b ats as_ H fun v H => some (v, H)).bind fun p => κ p.1 p.2 := by
  unfold builtinE
  split
  · simp only [opt_bind, pair_bind]
  · simp only [opt_bind, pair_bind]
  · simp only [opt_bind, pair_bind]
  · simp only [opt_bind, pair_bind]
  · split
    · split
      · split
        · simp only [ite_bind, bif_bind, Option.bind_none, ← appendE_bind]
        · simp only [ite_bind, opt_bind, Option.bind_none, ← appendE_bind]
      · rfl
    · rfl
  · split
    · split
      · simp only [ite_bind, ← copyE_bind]
      · rfl
    · rfl
  · split
    · split
      · simp only [ite_bind, ← clearE_bind]
      · rfl
    · rfl
  · rfl

theorem opE_bind (g : Call1) (o : Oper) (kn : Kn) (e : List (Option AV)) (H : Heap) (κ : Option AV → Heap → Option ρ) :
    opE c g.on o kn e H κ = (opE c g.on o kn e H fun v H => some (v, H)).bind fun p => κ p.1 p.2 := by
  unfold opE
  split <;> simp only [loadE_eq, storeE_eq, opt_bind, chk_bind, ite_bind, bif_bind, pair_bind, Option.bind_none]
  · rw [pickE_bind]
    conv => rhs; rw [pickE_bind]
    simp only [Option.bind_assoc, pair_bind]
  · split <;> simp only [opt_bind, chk_bind, ite_bind, bif_bind, pair_bind, Option.bind_none]
  · congr 1; funext p; split <;> rfl
  · congr 1; funext p; split <;> simp only [opt_bind, chk_bind, pair_bind]
  · congr 1; funext p; congr 1; funext q; split <;> simp only [opt_bind, bif_bind, pair_bind, Option.bind_none]
  · congr 1; funext p; congr 1; funext q; congr 1; funext r; split <;> simp only [opt_bind, chk_bind, bif_bind, pair_bind, Option.bind_none]
  · congr 1; funext p; split
    · simp only [opt_bind]
      congr 1; funext q; obtain ⟨q1, q2⟩ := q; simp only [opt_bind]
      congr 1; funext r; split <;> simp only [opt_bind, pair_bind, Option.bind_none]
    · rfl
  · congr 1; funext p; split
    · simp only [opt_bind]
      congr 1
    · rfl
  · congr 1; funext p; congr 1; funext q; split <;> simp only [opt_bind, chk_bind, pair_bind, Option.bind_none]
  · congr 1; funext p; congr 1; funext q; split <;> simp only [opt_bind, bif_bind, pair_bind, Option.bind_none]
  · congr 1; funext p; split <;> simp only [opt_bind, pair_bind, Option.bind_none]
  · congr 1; funext p; split
    · rw [builtinE_bind]
      conv => rhs; rw [builtinE_bind]
      simp only [Option.bind_assoc, pair_bind]
    · simp only [opt_bind]
      congr 1; funext q; split
      · simp only [Call1.on, Option.bind_assoc, pair_bind]
      · rfl
    · rfl

/-! ### rows of operations, code, calls -/
theorem opsE_bind (g : Call1) (all : List Oper) : ∀ (os : List Oper) (kn : Kn) (s : St) (κ : St → Option ρ), opsE c g.on all os kn s κ = (opsE c g.on all os kn s some).bind κ
  | [], kn, s, κ => rfl
  | o :: os, kn, s, κ => by
    have ex : ∀ kn, (opE c g.on o kn s.env s.heap fun v H => opsE c g.on all os (knPut kn o.dst) ⟨putE s.env o.dst v, H⟩ κ) = (opE c g.on o kn s.env s.heap fun v H => opsE c g.on all os (knPut kn o.dst) ⟨putE s.env o.dst v, H⟩ some).bind κ := by
      intro kn
      rw [opE_bind]
      conv => rhs; rw [opE_bind]
      rw [Option.bind_assoc]
      congr 1; funext p
      rw [opsE_bind g all os]
    have sk : ∀ kn, opsE c g.on all os (knPut kn o.dst) ⟨putE s.env o.dst none, s.heap⟩ κ = (opsE c g.on all os (knPut kn o.dst) ⟨putE s.env o.dst none, s.heap⟩ some).bind κ := fun kn => opsE_bind g all os _ _ _
    simp only [opsE, contO, putK_eq]
    split
    · exact ex kn
    · split
      · rfl
      · split
        · split
          · exact ex kn
          · exact sk kn
        · split
          · simp only [bif_bind]
            congr 1
            · split
              · exact ex _
              · exact sk _
            · split
              · exact ex _
              · exact sk _
          · exact sk kn
          · rfl
abbrev Go1 := Ex × St
theorem loopN_bind (B : (Ex → St → Option ρ) → St → Option ρ) (B1 : (Ex → St → Option Go1) → St → Option Go1) (C1 : St → Option Go1) (hB : ∀ κ s, B κ s = (C1 s).bind fun p => κ p.1 p.2) (hB1 : ∀ κ s, B1 κ s = (C1 s).bind fun p => κ p.1 p.2)
    (gc : St → Option St) : ∀ (n : Nat) (κ : Ex → St → Option ρ) (s : St), loopN B gc n κ s = (loopN B1 gc n (fun x s => some (x, s)) s).bind fun p => κ p.1 p.2
  | 0, κ, s => by rw [loopN_zero, loopN_zero]; rfl
  | n + 1, κ, s => by
    simp only [loopN_succ]
    split
    · rfl
    · rw [hB, hB1, Option.bind_assoc]
      congr 1; funext p
      split
      · exact loopN_bind B B1 C1 hB hB1 gc n κ _
      · rfl
theorem endR_bind (lv : List (Nat × List Nat)) (m id : Nat) (κ : Ex → St → Option ρ) (s : St) : endR lv m id (κ .normal) s = (endR lv m id (fun s => some (Ex.normal, s)) s).bind fun p => κ p.1 p.2 := by
  unfold endR
  split
  · rfl
  · split <;> rfl
theorem codeE_bind (lv : List (Nat × List Nat)) (m k : Nat) (g : Bool → Call1) : ∀ (a : Code) {ρ : Type} (κ : Ex → St → Option ρ) (s : St),
    codeE c lv m k (fun d => (g d).on) a κ s = (codeE c lv m k (fun d => (g d).on) a (fun x s => some (x, s)) s).bind fun p => κ p.1 p.2
  | .skip, _, κ, s => rfl
  | .label _, _, κ, s => rfl
  | .region _ ops dr, _, κ, s => by
    simp only [codeE]
    cases (!dr || rootsB c ops s.env) with
    | false => rfl
    | true =>
      simp only [cond_true]
      rw [opsE_bind]
      conv => rhs; rw [opsE_bind, Option.bind_assoc]
      congr 1; funext p
      exact endR_bind lv m _ κ p
  | .seq a b, _, κ, s => by
    simp only [codeE]
    rw [codeE_bind lv m k g a]
    conv => rhs; rw [codeE_bind lv m k g a, Option.bind_assoc]
    congr 1; funext p
    split
    · exact codeE_bind lv m k g b κ _
    · rfl
  | .cond y a b, _, κ, s => by
    simp only [codeE]
    split
    · rw [bif_bind]
      congr 1
      · exact codeE_bind lv m k g a κ s
      · exact codeE_bind lv m k g b κ s
    · rfl
  | .block id a, _, κ, s => by
    simp only [codeE]
    rw [codeE_bind lv m k g a]
    conv => rhs; rw [codeE_bind lv m k g a, Option.bind_assoc]
    congr 1; funext p
    split
    · split <;> rfl
    · rfl
  | .loop a, ρ', κ, s => by
    simp only [codeE]
    exact loopN_bind _ _ (fun s => codeE c lv m k (fun d => (g d).on) a (fun x s => some (x, s)) s) (fun κ s => codeE_bind lv m k g a κ s) (fun κ s => codeE_bind lv m k g a κ s) _ k κ s
  | .exit _, _, κ, s => rfl
  | .ret, _, κ, s => rfl
  | .goto _, _, κ, s => rfl
  | .rangeFunc .., _, κ, s => rfl
  | .scope a, _, κ, s => by
    simp only [codeE]
    exact codeE_bind lv m k g a κ s
  | .refuse _, _, κ, s => rfl
theorem same_bind {γ : Type} (f : γ → Option ρ) : ∀ (as_ bs : List AV) (K : Option γ), (sameE as_ bs K).bind f = sameE as_ bs (K.bind f)
  | as_, bs, K => by
    conv => lhs; unfold sameE
    conv => rhs; unfold sameE
    split
    · rfl
    · split
      · rw [bif_bind, same_bind f]; rfl
      · rfl
    · rw [bif_bind, same_bind f]; rfl
    · rw [bif_bind, same_bind f]; rfl
    · split
      · exact same_bind f _ _ _
      · rfl
    · split
      · rw [bif_bind, same_bind f]; rfl
      · rfl
    · rfl
termination_by as_ => as_.length
theorem keptL_bind {γ : Type} (f : γ → Option ρ) (H : Heap) : ∀ (rs : List Nat) (os : Heap) (K : Option γ), (keptL H rs os K).bind f = keptL H rs os (K.bind f)
  | r :: rs, o :: os, K => by
    simp only [keptL]
    split
    · rw [same_bind, keptL_bind f H]
    · rfl
    · rfl
    · exact keptL_bind f H _ _ _
  | [], os, K => by cases os <;> rfl
  | _ :: _, [], K => rfl
theorem kept_bind {γ : Type} (f : γ → Option ρ) (dr : Bool) (H : Heap) (rs : List Nat) (os : Heap) (K : Option γ) : (keptE dr H rs os K).bind f = keptE dr H rs os (K.bind f) := by
  unfold keptE
  split
  · exact keptL_bind f H rs os K
  · rfl
theorem callE_bind (dr : Bool) (g : Call1) (f : Nat) (as_ : List AV) (H : Heap) (κ : AV → Heap → Option ρ) : callE c dr g.on f as_ H κ = (callE c dr g.on f as_ H fun v H => some (v, H)).bind fun p => κ p.1 p.2 := by
  unfold callE
  split
  · simp only [opt_bind, Call1.on, Option.bind_assoc]
    congr 1; funext p; congr 1; funext q; congr 1; funext r
    split
    · rfl
    · split <;> rfl
  · simp only [opt_bind, Call1.on, Option.bind_assoc]
    congr 1; funext p; congr 1; funext q; congr 1; funext r
    split
    · rfl
    · split <;> rfl
  · simp only [opt_bind, Call1.on, Option.bind_assoc]
    rfl
  · simp only [opt_bind, ite_bind, Call1.on, Option.bind_assoc, kept_bind]
    rfl
/-- what a call comes to, outright -/
def eval1 (c : Ctx) (k : Nat) : Call1 := fun f as_ H => evalF c k f as_ H fun v H => some (v, H)
def call1 (cm c : Ctx) (k : Nat) (dr : Bool) : Call1 := fun f as_ H => callE cm dr (eval1 c k).on f as_ H fun v H => some (v, H)
theorem evalF_bind : ∀ (k : Nat) {ρ : Type}, (evalF c k : Nat → List AV → Heap → (AV → Heap → Option ρ) → Option ρ) = (eval1 c k).on
  | 0, ρ => rfl
  | k + 1, ρ => by
    funext f as_ H κ
    have e1 : ∀ (cm : Ctx) {ρ : Type}, (fun dr => callE cm dr (evalF c k) : Bool → Nat → List AV → Heap → (AV → Heap → Option ρ) → Option ρ) = fun dr => (call1 cm c k dr).on := by
      intro cm ρ
      funext dr
      rw [evalF_bind k]
      funext f as_ H κ
      exact callE_bind dr _ f as_ H κ
    unfold Call1.on eval1
    simp only [evalF]
    split
    · simp only [opt_bind]
      rfl
    split
    · rfl
    · split
      · rfl
      · rw [e1, e1, codeE_bind]
        conv => rhs; rw [codeE_bind, Option.bind_assoc]
        congr 1; funext p
        split
        · rfl
        · simp only [opt_bind, pair_bind]
end
end Go.Ev

set_option linter.unusedVariables false
set_option linter.unusedSimpArgs false
set_option linter.unusedSectionVars false
namespace Go.Ev
open Go

/-- what is known of a table of calls, outright -/
def Call1OK (P : Program) (g : Call1) : Prop :=
  ∀ f as_ H av H', g f as_ H = some (av, H') → (∃ fn, P.funcs[f]? = some fn ∧ (fn.name == "runtime.NumGoroutine") = false ∧ fn.body.isNone = false) ∧
    ∀ [Gh] β vs w, HR β H w.heap → AR β H w.heap vs as_ → Calls P f vs w (CEnd (fun a H => some (a, H)) (av, H') β H w)
theorem Call1OK.run {P : Program} {g : Call1} (h : Call1OK P g) {f : Nat} {as_ : List AV} {H : Heap} {av : AV} {H' : Heap} (hx : g f as_ H = some (av, H')) (G : Gh) (β : Nat → Nat) (vs : Array Value) (w : World) (hR : HR β H w.heap) (hA : AR β H w.heap vs as_) : Calls P f vs w (CEnd (fun a H => some (a, H)) (av, H') β H w) := (h f as_ H av H' hx).2 β vs w hR hA
variable [Gh]
theorem Call1OK.on {P : Program} {g : Call1} (h : Call1OK P g) {ρ : Type} : CallOK P (g.on (ρ := ρ)) := by
  intro f as_ H κ x hx
  unfold Call1.on at hx
  cases hg : g f as_ H with
  | none => rw [hg] at hx; cases hx
  | some p =>
    obtain ⟨av, H'⟩ := p
    rw [hg] at hx
    obtain ⟨h1, h2⟩ := h f as_ H av H' hg
    refine ⟨h1, fun β vs w hR hA => Calls.mono (h2 β vs w hR hA) ?_⟩
    rintro en w' ⟨v, av', β', H2, rfl, hk, r1, r2, r3, r4⟩
    cases hk
    exact ⟨v, av, β', H', rfl, hx, r1, r2, r3, r4⟩

/-- what is known is in the temporaries -/
def KnEnv (kn : Kn) (e : List (Option AV)) : Prop := ∀ t b, find1 t kn = some b → e.getD t none = some (.bool b)
theorem find1_filter {α : Type} {d : Nat} {p : Nat × α → Bool} {t : Nat} {b : α} (hp : ∀ q : Nat × α, p q = !decide (q.1 = d)) : ∀ {kn : List (Nat × α)}, find1 t (kn.filter p) = some b → t ≠ d ∧ find1 t kn = some b
  | [], h => by cases h
  | (u, a) :: kn, h => by
    rw [List.filter_cons, hp] at h
    by_cases hu : u = d
    · subst hu
      simp only [decide_true, Bool.not_true, Bool.false_eq_true, if_false] at h
      obtain ⟨h1, h2⟩ := find1_filter hp h
      refine ⟨h1, ?_⟩
      simp only [find1]
      rw [if_neg (Ne.symm h1)]; exact h2
    · simp only [decide_eq_false hu, Bool.not_false, if_true, find1] at h ⊢
      by_cases ht : u = t
      · rw [if_pos ht] at h ⊢
        exact ⟨by rw [← ht]; exact hu, h⟩
      · rw [if_neg ht] at h ⊢
        exact find1_filter hp h
theorem putE_getD {e : List (Option AV)} {dst : Option Tmp} {v : Option AV} {t : Nat} (h : ∀ d, dst = some d → t ≠ d) : (putE e dst v).getD t none = e.getD t none := by
  unfold putE
  split
  · rw [List.getD_eq_getElem?_getD, List.getElem?_set_ne (Ne.symm (h _ rfl)), ← List.getD_eq_getElem?_getD]
  · rw [List.getD_eq_getElem?_getD, List.getElem?_set_ne (Ne.symm (h _ rfl)), ← List.getD_eq_getElem?_getD]
  · rfl
theorem putE_length {e : List (Option AV)} {dst : Option Tmp} {v : Option AV} : (putE e dst v).length = e.length := by
  unfold putE; split <;> simp
theorem KnEnv.put {kn : Kn} {e : List (Option AV)} (h : KnEnv kn e) (dst : Option Tmp) (v : Option AV) : KnEnv (knPut kn dst) (putE e dst v) := by
  intro t b ht
  cases dst with
  | none => rw [putE_getD (by simp)]; exact h t b ht
  | some d =>
    simp only [knPut] at ht
    obtain ⟨h1, h2⟩ := find1_filter (d := d) (fun _ => rfl) ht
    rw [putE_getD (by rintro _ ⟨⟩; exact h1)]
    exact h t b h2
theorem KnEnv.nil {e : List (Option AV)} : KnEnv [] e := fun t b h => by cases h
theorem KnEnv.cons {kn : Kn} {e : List (Option AV)} (h : KnEnv kn e) {t : Nat} {b : Bool} (ht : e.getD t none = some (.bool b)) : KnEnv ((t, b) :: kn) e := by
  intro u c hu
  simp only [find1] at hu
  split at hu
  · rename_i htu; cases hu; rw [← htu]; exact ht
  · exact h u c hu
theorem KnEnv.ok {kn : Kn} {e : List (Option AV)} (h : KnEnv kn e) {β : Nat → Nat} {H : Heap} {W : Array Obj} {tmps : Array Value} (hE : ER β H W tmps e) : KnOK kn tmps := by
  intro t b ht
  obtain ⟨v, hv, hr⟩ := hE.2 t _ (h t b ht)
  rw [hv, hr.inv_bool]

/-- whether an operation is wanted -/
def GuardOn (all : List Oper) (o : Oper) (e : List (Option AV)) (ex : Bool) : Prop :=
  match o.guard with
  | none => ex = true
  | some (j, want) => ∃ t, (all[j]?).bind (·.dst) = some t ∧ ((ex = true ∧ e.getD t none = some (.bool want)) ∨ (ex = false ∧ (e.getD t none = some (.bool !want) ∨ e.getD t none = some .und)))
structure Rec where
  kn : Kn
  s : St
  ex : Bool
  v : Option AV
  H : Heap
def Rec.Ok (c : Ctx) (g : Call1) (all : List Oper) (o : Oper) (r : Rec) : Prop :=
  KnEnv r.kn r.s.env ∧ GuardOn all o r.s.env r.ex ∧ (if r.ex = true then opE c g.on o r.kn r.s.env r.s.heap (fun v H => some (v, H)) = some (r.v, r.H) else r.v = none ∧ r.H = r.s.heap)
/-- a run in the text's order -/
def Run (c : Ctx) (g : Call1) (all : List Oper) : List Oper → St → List Rec → St → Prop
  | [], s, [], s' => s = s'
  | o :: os, s, r :: rs, s' => r.s = s ∧ r.Ok c g all o ∧ Run c g all os ⟨putE s.env o.dst r.v, r.H⟩ rs s'
  | _, _, _, _ => False

theorem opsE_run {ρ : Type} {c : Ctx} {g : Call1} {all : List Oper} {x : ρ} : ∀ {os : List Oper} {kn : Kn} {s : St} {κ : St → Option ρ}, KnEnv kn s.env → opsE c g.on all os kn s κ = some x → ∃ rs s', Run c g all os s rs s' ∧ κ s' = some x
  | [], kn, s, κ, hK, h => ⟨[], s, rfl, h⟩
  | o :: os, kn, s, κ, hK, h => by
    have ex : ∀ kn, KnEnv kn s.env → GuardOn all o s.env true → (opE c g.on o kn s.env s.heap fun v H => opsE c g.on all os (knPut kn o.dst) ⟨putE s.env o.dst v, H⟩ κ) = some x → ∃ rs s', Run c g all (o :: os) s rs s' ∧ κ s' = some x := by
      intro kn hK hG h
      rw [opE_bind] at h
      cases hp : opE c g.on o kn s.env s.heap fun v H => some (v, H) with
      | none => rw [hp] at h; cases h
      | some p =>
        rw [hp] at h
        obtain ⟨rs, s', h1, h2⟩ := opsE_run (hK.put o.dst p.1) h
        exact ⟨⟨kn, s, true, p.1, p.2⟩ :: rs, s', ⟨rfl, ⟨hK, hG, by simpa using hp⟩, h1⟩, h2⟩
    have sk : ∀ kn, KnEnv kn s.env → GuardOn all o s.env false → opsE c g.on all os (knPut kn o.dst) ⟨putE s.env o.dst none, s.heap⟩ κ = some x → ∃ rs s', Run c g all (o :: os) s rs s' ∧ κ s' = some x := by
      intro kn hK hG h
      obtain ⟨rs, s', h1, h2⟩ := opsE_run (hK.put o.dst none) h
      exact ⟨⟨kn, s, false, none, s.heap⟩ :: rs, s', ⟨rfl, ⟨hK, hG, rfl, rfl⟩, h1⟩, h2⟩
    simp only [opsE, contO, putK_eq] at h
    split at h
    · rename_i hg
      exact ex kn hK (by unfold GuardOn; rw [hg]) h
    · rename_i j want hg
      split at h
      · cases h
      · rename_i t ht
        have on : ∀ {e : Bool}, ((e = true ∧ s.env.getD t none = some (.bool want)) ∨ (e = false ∧ (s.env.getD t none = some (.bool !want) ∨ s.env.getD t none = some .und))) → GuardOn all o s.env e := by
          intro e he; unfold GuardOn; rw [hg]; exact ⟨t, ht, he⟩
        split at h
        · rename_i b hb
          have hb' := hK t b hb
          split at h
          · rename_i hbw; subst hbw; exact ex kn hK (on (.inl ⟨rfl, hb'⟩)) h
          · rename_i hbw
            have : b = !want := by cases b <;> cases want <;> simp_all
            subst this
            exact sk kn hK (on (.inr ⟨rfl, .inl hb'⟩)) h
        · split at h
          · rename_i b hb
            cases b with
            | true =>
              simp only [cond_true] at h
              split at h
              · rename_i hw; subst hw; exact ex _ (hK.cons hb) (on (.inl ⟨rfl, hb⟩)) h
              · rename_i hw
                have hw' : want = false := by simpa using hw
                subst hw'
                exact sk _ (hK.cons hb) (on (.inr ⟨rfl, .inl hb⟩)) h
            | false =>
              simp only [cond_false] at h
              split at h
              · rename_i hw; subst hw; exact ex _ (hK.cons hb) (on (.inl ⟨rfl, hb⟩)) h
              · rename_i hw
                have hw' : want = true := by simpa using hw
                subst hw'
                exact sk _ (hK.cons hb) (on (.inr ⟨rfl, .inl hb⟩)) h
          · rename_i hb
            exact sk kn hK (on (.inr ⟨rfl, .inr hb⟩)) h
          · cases h

section
variable {P : Program} {c : Ctx} {g : Call1} {ops : Array Oper} {Q : Exit → Act → World → Prop}

theorem wanted_on {o : Oper} {e : List (Option AV)} {ex : Bool} {β : Nat → Nat} {H : Heap} {W : Array Obj} {tmps : Array Value} (h : GuardOn ops.toList o e ex)
    (hE : ∀ j want t, o.guard = some (j, want) → (ops[j]?).bind (·.dst) = some t → ∀ av, e.getD t none = some av → ∃ v, tmps[t]? = some v ∧ R β H W v av) : Region.wanted o (yielded ops tmps) = ex := by
  unfold GuardOn at h
  unfold Region.wanted
  cases hg : o.guard with
  | none => rw [hg] at h; exact h.symm
  | some jw =>
    obtain ⟨j, want⟩ := jw
    rw [hg] at h
    obtain ⟨t, ht, h⟩ := h
    rw [Array.getElem?_toList] at ht
    have hh := hE j want t hg ht
    simp only [yielded, ht, Option.bind_some]
    rcases h with ⟨rfl, he⟩ | ⟨rfl, he | he⟩
    · obtain ⟨v, hv, hr⟩ := hh _ he
      rw [hv, hr.inv_bool]; simp
    · obtain ⟨v, hv, hr⟩ := hh _ he
      rw [hv, hr.inv_bool]; cases want <;> rfl
    · obtain ⟨v, hv, hr⟩ := hh _ he
      cases hr
      rw [hv]; rfl
theorem put_size {a : Act} {dst : Option Tmp} {v : Value} : (a.put dst v).tmps.size = a.tmps.size := by cases dst <;> simp [Act.put]
theorem put_defers {a : Act} {dst : Option Tmp} {v : Value} : (a.put dst v).defers = a.defers := by cases dst <;> rfl
theorem put_get {a : Act} {dst : Option Tmp} {v : Value} {t : Nat} (h : ∀ d, dst = some d → t ≠ d) : (a.put dst v).tmps[t]? = a.tmps[t]? := by
  cases dst with
  | none => rfl
  | some d => simp [Act.put, Array.getElem?_setIfInBounds_ne (Ne.symm (h d rfl))]
theorem put_get_eq {a : Act} {d : Tmp} {v : Value} (h : d < a.tmps.size) : (a.put (some d) v).tmps[d]? = some v := by simp [Act.put, h]
theorem putE_eq {e : List (Option AV)} {d : Tmp} {v : Option AV} (h : d < e.length) : (putE e (some d) v).getD d none = some (v.getD .und) := by
  cases v <;> simp [putE, h]
theorem VR.getD {β : Nat → Nat} {H : Heap} {W : Array Obj} {cv : Value} {v : Option AV} (h : VR β H W cv v) : R β H W cv (v.getD .und) := by
  cases v with
  | none => cases h; exact .und
  | some v => exact h
theorem ER.put {β : Nat → Nat} {H : Heap} {W : Array Obj} {a : Act} {e : List (Option AV)} (h : ER β H W a.tmps e) {dst : Option Tmp} {cv : Value} {v : Option AV} (hv : VR β H W cv v) : ER β H W (a.put dst cv).tmps (putE e dst v) := by
  refine ⟨by rw [put_size, putE_length]; exact h.1, fun t av ht => ?_⟩
  by_cases hd : dst = some t
  · subst hd
    by_cases hl : t < e.length
    · rw [putE_eq hl] at ht
      cases ht
      exact ⟨cv, put_get_eq (Nat.lt_of_lt_of_le hl h.1), hv.getD⟩
    · rw [List.getD_eq_getElem?_getD, List.getElem?_eq_none (by rw [putE_length]; omega)] at ht
      cases ht
  · have hne : ∀ d, dst = some d → t ≠ d := by rintro d rfl rfl; exact hd rfl
    rw [putE_getD hne] at ht
    rw [put_get hne]
    exact h.2 t av ht

theorem run_wp (hC : CtxOK c P) (hM : CmpAll c P) (hg : Call1OK P g) : ∀ {os : List Oper} {s : St} {rs : List Rec} {s' : St} {i : Nat}, Run c g ops.toList os s rs s' → os = ops.toList.drop i → ∀ {a : Act} {w : World} {β : Nat → Nat}, HR β s.heap w.heap → ER β s.heap w.heap a.tmps s.env →
    (∀ a' w' β', HR β' s'.heap w'.heap → ER β' s'.heap w'.heap a'.tmps s'.env → Evo β s.heap w.heap β' s'.heap w'.heap → Same w w' → a'.defers = a.defers → Q .normal a' w') → wpOps P ops Q (List.range' i (ops.size - i)) a w
  | [], s, rs, s', i, h, hos, a, w, β, hR, hE, hQ => by
    have hi : ops.size ≤ i := by
      have := congrArg List.length hos
      simp at this
      omega
    rw [show ops.size - i = 0 by omega]
    cases rs with
    | nil => cases h; exact hQ a w β hR hE (Evo.refl _ _ _) (Same.refl _) rfl
    | cons r rs => exact h.elim
  | o :: os, s, rs, s', i, h, hos, a, w, β, hR, hE, hQ => by
    have hi : i < ops.size := by
      have := congrArg List.length hos
      simp at this
      omega
    have ho : ops[i]? = some o := by
      have := congrArg (·[0]?) hos
      simp at this
      exact this.symm
    have hos' : os = ops.toList.drop (i + 1) := by
      have := congrArg List.tail hos
      simpa using this
    rw [show ops.size - i = (ops.size - (i + 1)) + 1 by omega, List.range'_succ]
    cases rs with
    | nil => exact h.elim
    | cons r rs =>
      obtain ⟨rfl, ⟨hK, hG, hx⟩, hrun⟩ := h
      have hw : Region.wanted o (yielded ops a.tmps) = r.ex := wanted_on hG fun j want t _ _ av hav => hE.2 t av hav
      simp only [wpOps, ho, hw]
      cases hex : r.ex with
      | true =>
        rw [hex, if_pos rfl] at hx
        simp only [if_true]
        refine .inl (opE_ok hC hM hg.on hR hE (hK.ok hE) hx _ ?_)
        intro cv ov β' H' w' hk hv hR' hE' hS
        cases hk
        exact run_wp hC hM hg hrun hos' hR' (ER.put (hE.stays hE') hv) (fun a2 w2 β2 q1 q2 q3 q4 q5 => hQ a2 w2 β2 q1 q2 (hE'.trans q3) (hS.trans q4) (q5.trans put_defers))
      | false =>
        rw [hex] at hx
        simp only [Bool.false_eq_true, if_false] at hx ⊢
        obtain ⟨hv, hH⟩ := hx
        rw [hv, hH] at hrun
        exact run_wp hC hM hg hrun hos' hR (ER.put hE (v := none) rfl) (fun a2 w2 β2 q1 q2 q3 q4 q5 => hQ a2 w2 β2 q1 q2 q3 q4 (q5.trans put_defers))
end
end Go.Ev

set_option linter.unusedVariables false
set_option linter.unusedSimpArgs false
set_option linter.unusedSectionVars false
namespace Go.Ev
open Go

section
variable {ρ : Type} {c : Ctx}

/-- alike at an operand -/
def Alike (e e' : List (Option AV)) (kn kn' : Kn) (y : Operand) : Prop := ∀ t, y = .tmp t → e.getD t none = e'.getD t none ∧ find1 t kn = find1 t kn'
variable {e e' : List (Option AV)} {kn kn' : Kn}
theorem opd_congr {y : Operand} (h : Alike e e' kn kn' y) : opd e y = opd e' y := by
  cases y with
  | tmp t => exact (h t rfl).1
  | _ => rfl
theorem opdT_congr {t : Nat} {y : Operand} (h : Alike e e' kn kn' y) : c.opdT t e y = c.opdT t e' y := by
  cases y with
  | tmp t => exact (h t rfl).1
  | _ => rfl
theorem knOf_congr {y : Operand} (h : Alike e e' kn kn' y) : knOf kn y = knOf kn' y := by
  cases y with
  | tmp t => exact (h t rfl).2
  | _ => rfl
theorem opds_congr : ∀ {ys : List Operand}, (∀ y ∈ ys, Alike e e' kn kn' y) → opds e ys = opds e' ys
  | [], h => rfl
  | y :: ys, h => by
    unfold opds
    rw [opd_congr (h y (by simp)), opds_congr fun z hz => h z (by simp [hz])]
theorem opdsT_congr : ∀ {ys : List Operand} {ts : List Nat}, (∀ y ∈ ys, Alike e e' kn kn' y) → c.opdsT e ys ts = c.opdsT e' ys ts
  | [], ts, h => by unfold Ctx.opdsT; rfl
  | y :: ys, ts, h => by
    unfold Ctx.opdsT
    rw [opdT_congr (h y (by simp)), opdsT_congr fun z hz => h z (by simp [hz])]
theorem partsOf_congr : ∀ {ps : List (Nat × Operand)}, (∀ p ∈ ps, Alike e e' kn kn' p.2) → partsOf e ps = partsOf e' ps
  | [], h => rfl
  | (i, y) :: ps, h => by
    unfold partsOf
    rw [opd_congr (h (i, y) (by simp)), partsOf_congr fun p hp => h p (by simp [hp])]
theorem optOpd_congr {y : Option Operand} (h : ∀ z, y = some z → Alike e e' kn kn' z) : y.map (opd e) = y.map (opd e') := by
  cases y with
  | none => rfl
  | some z => exact congrArg some (opd_congr (h z rfl))

theorem opE_congr {call : Nat → List AV → Heap → (AV → Heap → Option ρ) → Option ρ} {o : Oper} (h : ∀ y ∈ o.op.operands, Alike e e' kn kn' y) (H : Heap) (κ : Option AV → Heap → Option ρ) :
    opE c call o kn e H κ = opE c call o kn' e' H κ := by
  obtain ⟨dst, op, type, pos, after, guard⟩ := o
  simp only at h
  cases op <;> simp only [Op.operands, List.mem_toArray, List.mem_cons, List.mem_singleton, List.not_mem_nil, or_false, forall_eq_or_imp, forall_eq] at h <;> simp only [opE]
  case move y => rw [opdT_congr h]
  case assign y => rw [opdT_congr h]
  case pick y p q => rw [opd_congr h.1, opdT_congr h.2.1, opdT_congr h.2.2]; unfold pickE; rw [knOf_congr h.1]
  case box t y => rw [opdT_congr h]
  case build t ps => rw [partsOf_congr (ps := ps.toList) fun p hp => h p.2 (by simpa using ⟨p.1, by simpa using hp⟩)]
  case buildSlice t n ps => rw [partsOf_congr (ps := ps.toList) fun p hp => h p.2 (by simpa using ⟨p.1, by simpa using hp⟩)]
  case load t y => rw [opd_congr h]
  case store t y z => rw [opd_congr h.1, opdT_congr h.2]
  case nilCheck y => rw [opd_congr h]
  case binOp op t y z u => rw [opd_congr h.1, opd_congr h.2]
  case unOp op t y => rw [opd_congr h]
  case convert s d y => rw [opd_congr h]
  case makeFunc fn first caps =>
    cases fn <;> simp only
    rw [opds_congr (ys := first.toList) fun y hy => h y (by simp at hy ⊢; exact .inl hy), opds_congr (ys := caps.toList) fun y hy => h y (by simp at hy ⊢; exact .inr hy)]
  case makeSlice t y z => rw [opd_congr h.1, opd_congr h.2]
  case slice t y lo hi mx =>
    simp only [Array.mem_append] at h
    rw [opd_congr (h y (by simp)), optOpd_congr fun z hz => h z (by subst hz; simp), optOpd_congr (y := hi) fun z hz => h z (by subst hz; simp), optOpd_congr (y := mx) fun z hz => h z (by subst hz; simp)]
  case fieldAddr s y f => rw [opd_congr h]
  case field s y f => rw [opd_congr h]
  case indexAddr t y z => rw [opd_congr h.1, opd_congr h.2]
  case index t y z => rw [opd_congr h.1, opd_congr h.2]
  case extract y i => rw [opd_congr h]
  case call cl =>
    rw [opdsT_congr (ys := cl.args.toList) fun y hy => h y (by simp [Call.operands]; right; simpa using hy)]
    congr 1; funext as_
    cases hc : cl.callee with
    | value f => simp only; rw [opd_congr (h f (by simp [Call.operands, hc]))]
    | _ => rfl

/-- calls that new objects say nothing to -/
def Call1.Mono (c : Ctx) (g : Call1) : Prop := ∀ f as_ H X av H', (c.modeOf f ≠ .fresh ∧ c.modeOf f ≠ .heap) → g f as_ H = some (av, H') → g f as_ (H ++ X) = some (av, H' ++ X)
/-- calls that leave memory be -/
def Call1.Quiet (c : Ctx) (g : Call1) : Prop := ∀ f as_ H av H', (c.modeOf f ≠ .fresh ∧ c.modeOf f ≠ .heap) → g f as_ H = some (av, H') → H' = H

theorem builtinE_zero {b : Builtin} (hb : b = .len ∨ b = .cap ∨ b = .max ∨ b = .min) (ats : List Nat) (as_ : List AV) (H : Heap) (κ : Option AV → Heap → Option ρ) :
    builtinE c b ats as_ H (fun v H => κ (some v) H) = (builtinE (ρ := Option AV) c b ats as_ [] fun v _ => some (some v)).bind fun v => κ v H := by
  have one : ∀ {α : Type} (v : α) (f : α → Option ρ), ((some v : Option α).bind f) = f v := fun _ _ => rfl
  rcases hb with rfl | rfl | rfl | rfl <;> (unfold builtinE; split <;> first | rfl | (rename_i hbb; cases hbb; done) | simp only [opt_bind, one, Option.bind_none] | simp_all)
theorem opE_zero' {g : Call1} {o : Oper} (h : cls c o = 0) (H : Heap) (κ : Option AV → Heap → Option ρ) : opE c g.on o kn e H κ = (opE (ρ := Option AV) c g.on o kn e [] fun v _ => some v).bind fun v => κ v H := by
  have one : ∀ {α : Type} (v : α) (f : α → Option ρ), ((some v : Option α).bind f) = f v := fun _ _ => rfl
  unfold cls at h
  unfold opE
  split <;> first | (exact rfl) | (rename_i ho; rw [ho] at h; simp only at h; first | omega | simp only [opt_bind, chk_bind, ite_bind, bif_bind, one, Option.bind_none])
  · rw [pickE_bind]
    conv => rhs; rw [pickE_bind]
    simp only [Option.bind_assoc, one]
  · split <;> simp only [opt_bind, chk_bind, ite_bind, bif_bind, one, Option.bind_none]
  · congr 1; funext p; split <;> rfl
  · congr 1; funext p; congr 1; funext q; congr 1; funext r; split <;> simp only [opt_bind, chk_bind, bif_bind, one, Option.bind_none]
  · congr 1; funext p; split
    · simp only [opt_bind]
      congr 1; funext q; obtain ⟨q1, q2⟩ := q; simp only [opt_bind, one]
      congr 1; funext r; split <;> simp only [opt_bind, one, Option.bind_none]
    · rfl
  · congr 1; funext p; split
    · simp only [opt_bind]
      congr 1
    · rfl
  · congr 1; funext p; congr 1; funext q; split <;> simp only [opt_bind, chk_bind, one, Option.bind_none]
  · congr 1; funext p; congr 1; funext q; split <;> simp only [opt_bind, bif_bind, one, Option.bind_none]
  · congr 1; funext p; split <;> simp only [opt_bind, one, Option.bind_none]
  · rename_i cl
    cases hc : cl.callee with
    | value f =>
      rw [hc] at h
      cases f <;> simp only at h <;> first | omega | (split at h <;> omega)
    | invoke r m => congr 1
    | builtin b =>
      rw [hc] at h
      congr 1; funext p
      refine builtinE_zero ?_ _ _ _ _
      cases b <;> simp at h ⊢
theorem opE_zero {g : Call1} {o : Oper} (h : cls c o = 0) {H H2 H' : Heap} {v : Option AV} (hx : opE c g.on o kn e H (fun v H => some (v, H)) = some (v, H')) : opE c g.on o kn e H2 (fun v H => some (v, H)) = some (v, H2) ∧ H' = H := by
  rw [opE_zero' h] at hx ⊢
  cases hv : opE (ρ := Option AV) c g.on o kn e [] fun v _ => some v with
  | none => rw [hv] at hx; cases hx
  | some u => rw [hv] at hx; cases hx; exact ⟨rfl, rfl⟩
theorem opE_one {g : Call1} (hg : g.Quiet c) {o : Oper} (h : cls c o = 1) {H H' : Heap} {v : Option AV} (hx : opE c g.on o kn e H (fun v H => some (v, H)) = some (v, H')) : H' = H := by
  unfold cls at h
  unfold opE at hx
  split at hx <;> first | (cases hx; done) | (rename_i ho; rw [ho] at h; simp only at h; first | omega | skip)
  · obtain ⟨_, _, hx⟩ := opt_some hx
    obtain ⟨_, _, hx⟩ := opt_some hx
    rw [loadE_eq] at hx
    obtain ⟨_, _, hx⟩ := opt_some hx
    cases hx; rfl
  · obtain ⟨_, _, hx⟩ := opt_some hx
    split at hx
    · obtain ⟨_, _, hx⟩ := opt_some hx
      simp only at hx
      obtain ⟨_, _, hx⟩ := chk_some hx
      cases hx; rfl
    · obtain ⟨_, _, hx⟩ := chk_some hx
      cases hx; rfl
  · obtain ⟨_, _, hx⟩ := opt_some hx
    split at hx
    · rename_i b hc
      rw [hc] at h
      cases b <;> simp at h
    · rename_i fo hcal
      rw [hcal] at h
      obtain ⟨fv, hfv, hx1⟩ := opt_some hx
      cases fo with
      | func fn =>
        simp only [opd] at hfv
        cases hfv
        simp only at hx1 h
        have hne : c.modeOf fn ≠ .fresh ∧ c.modeOf fn ≠ .heap := by
          constructor <;> (intro he; rw [he] at h; simp at h)
        unfold Call1.on at hx1
        generalize hA : [] ++ _ ++ [] = A at hx1
        cases hc : g fn A H with
        | none => rw [hc] at hx1; cases hx1
        | some p => rw [hc] at hx1; cases hx1; exact hg _ _ _ _ _ hne hc
      | _ => simp at h
    · cases hx
end
end Go.Ev

set_option linter.unusedVariables false
set_option linter.unusedSimpArgs false
set_option linter.unusedSectionVars false
namespace Go.Ev
open Go
variable [Gh]

/-! ### what is ordered -/
theorem wb_spec {c : Ctx} {ops : Array Oper} (hw : wbReg c ops = true) {j : Nat} {o : Oper} (ho : ops[j]? = some o) (hc : cls c o = 2) : ∃ t p v i x, o.op = .store t (.tmp p) (.tmp v) ∧ o.guard = none ∧ i < j ∧ ops[i]? = some x ∧ x.op = .load t (.tmp p) ∧ x.dst = some v ∧ x.guard = none ∧
    (∀ k y, i ≤ k → k < j → ops[k]? = some y → y.dst ≠ some p) ∧ (∀ k y, i < k → k < j → ops[k]? = some y → y.dst ≠ some v) := by
  have hj : j < ops.size := (Array.getElem?_eq_some_iff.1 ho).1
  have h := List.all_eq_true.1 hw j (List.mem_range.2 hj)
  rw [ho] at h
  simp only [Bool.or_eq_true, decide_eq_true_eq] at h
  rcases h with h | h
  · omega
  unfold wbOne at h
  split at h
  · rename_i t p v hop
    simp only [Bool.and_eq_true, List.any_eq_true, List.mem_range, Option.isNone_iff_eq_none, List.all_eq_true] at h
    obtain ⟨hgd, i, hi, h1, h2⟩ := h
    split at h1
    · rename_i x hx
      unfold wbLoad at h1
      split at h1
      · rename_i t' p' hxo
        simp only [Bool.and_eq_true, Nat.beq_eq, decide_eq_true_eq, Option.isNone_iff_eq_none] at h1
        obtain ⟨rfl, rfl, hd, hg⟩ := h1
        refine ⟨t', p', v, i, x, hop, hgd, hi, hx, hxo, hd, hg, fun k y h3 h4 hy => ?_, fun k y h3 h4 hy => ?_⟩
        · have := h2 k h4
          rw [hy] at this
          simp only [Bool.and_eq_true, Bool.or_eq_true, decide_eq_true_eq] at this
          exact this.1.resolve_left (by omega)
        · have := h2 k h4
          rw [hy] at this
          simp only [Bool.and_eq_true, Bool.or_eq_true, decide_eq_true_eq] at this
          exact this.2.resolve_left (by omega)
      · cases h1
    · cases h1
  · cases h
theorem befOf_bit {ms : List Nat} {i : Nat} : ∀ {es : List Edge} {m : Nat}, (es.foldl (fun m e => bif Region.binds .any e then m ||| (1 <<< e.on) ||| ms.getD e.on 0 else m) m).testBit i = true →
    m.testBit i = true ∨ ∃ e ∈ es, Region.binds .any e = true ∧ (e.on = i ∨ (ms.getD e.on 0).testBit i = true)
  | [], m, h => .inl h
  | e :: es, m, h => by
    rw [List.foldl_cons] at h
    rcases befOf_bit h with h | ⟨e', he', h⟩
    · cases hb : Region.binds .any e with
      | false => rw [hb] at h; exact .inl h
      | true =>
        rw [hb] at h
        simp only [cond_true, Nat.testBit_or, Bool.or_eq_true] at h
        rcases h with (h | h) | h
        · exact .inl h
        · refine .inr ⟨e, by simp, hb, .inl ?_⟩
          rw [Nat.one_shiftLeft, Nat.testBit_two_pow] at h
          simpa using h
        · exact .inr ⟨e, by simp, hb, .inr h⟩
    · exact .inr ⟨e', by simp [he'], h⟩
theorem befs_spec : ∀ (os : List Oper) (ms : List Nat), (befs os ms).take ms.length = ms ∧ (befs os ms).length = ms.length + os.length ∧
    ∀ k o, os[k]? = some o → (befs os ms).getD (ms.length + k) 0 = befOf ((befs os ms).take (ms.length + k)) o.after.toList
  | [], ms => ⟨by simp [befs], by simp [befs], fun k o h => by simp at h⟩
  | o :: os, ms => by
    obtain ⟨h1, h2, h3⟩ := befs_spec os (ms ++ [befOf ms o.after.toList])
    simp only [List.length_append, List.length_singleton] at h1 h2 h3
    have h4 : (befs os (ms ++ [befOf ms o.after.toList])).take ms.length = ms := by
      have := congrArg (List.take ms.length) h1
      rw [List.take_take, Nat.min_eq_left (by omega), List.take_append_of_le_length (Nat.le_refl _), List.take_length] at this
      exact this
    refine ⟨h4, by simp only [befs, List.length_cons]; omega, fun k o' hk => ?_⟩
    simp only [befs]
    cases k with
    | zero =>
      simp only [List.getElem?_cons_zero, Option.some.injEq] at hk
      subst hk
      rw [Nat.add_zero, h4, List.getD_eq_getElem?_getD]
      have := congrArg (·[ms.length]?) h1
      simp only [List.getElem?_take, List.getElem?_append_right (Nat.le_refl _)] at this
      rw [if_pos (by omega)] at this
      rw [this]; simp
    | succ k =>
      simp only [List.getElem?_cons_succ] at hk
      have := h3 k o' hk
      rw [show ms.length + (k + 1) = ms.length + 1 + k by omega]
      exact this

section
variable {P : Program} {c : Ctx} {g : Call1} {ops : Array Oper} {Q : Exit → Act → World → Prop}

abbrev On (listed : Array Bool) (k : Nat) : Prop := listed.getD k false = true
/-- what comes before what is listed is listed -/
def Closed (ops : Array Oper) (listed : Array Bool) : Prop := ∀ j o, ops[j]? = some o → On listed j → ∀ e ∈ o.after, Region.binds .any e = true → On listed e.on

theorem before_on {listed : Array Bool} (hD : Closed ops listed) : ∀ (j : Nat) (o : Oper), ops[j]? = some o → (∀ e ∈ o.after, Region.binds .any e = true → On listed e.on) → ∀ i, ((befs ops.toList []).getD j 0).testBit i = true → On listed i := by
  intro j
  induction j using Nat.strongRecOn with
  | ind j ih =>
    intro o ho hp i hi
    obtain ⟨_, h2, h3⟩ := befs_spec ops.toList []
    have h3 := h3 j o (by simpa using ho)
    simp only [List.length_nil, Nat.zero_add] at h3
    rw [h3] at hi
    rcases befOf_bit hi with hi | ⟨e, he, hb, hi⟩
    · simp at hi
    · have hon := hp e (by simpa using he) hb
      rcases hi with rfl | hi
      · exact hon
      · rw [List.getD_eq_getElem?_getD, List.getElem?_take] at hi
        by_cases hlt : e.on < j
        · rw [if_pos hlt, ← List.getD_eq_getElem?_getD] at hi
          have hsz : e.on < ops.size := by
            have := (Array.getElem?_eq_some_iff.1 ho).1; omega
          exact ih e.on hlt ops[e.on] (Array.getElem?_eq_getElem hsz) (fun e' he' hb' => hD e.on _ (Array.getElem?_eq_getElem hsz) hon e' he' hb') i hi
        · rw [if_neg hlt] at hi; simp at hi

/-- what two operations have to do with each other whose order is left open; x stands before y in the text -/
structure Apart (c : Ctx) (ops : Array Oper) (e : List (Option AV)) (x y : Oper) (i j : Nat) : Prop where
  apart : x.apart ops y = true
  rel : clsR c ops x + clsR c ops y ≤ 2 ∨ (cls c x ≤ 1 ∧ allocB y = true) ∨ (newB c y = true ∧ ∃ q, wlOf ops x = some q ∧ refAt e q = true) ∨ (newB c x = true ∧ ∃ q, wlOf ops y = some q ∧ refAt e q = true) ∨ freeB c ops j = true ∨ (cls c x ≤ 1 ∧ ownS ops i j = true)
theorem regOk_spec (h : regOk c ops = true) {e : List (Option AV)} (hr : rootsB c ops e = true) : Region.noSelect ops = true ∧ (∀ j y, ops[j]? = some y → (∀ e ∈ y.after, Region.binds .any e = true → e.on < j) ∧ ∀ i x, i < j → ops[i]? = some x → ((befs ops.toList []).getD j 0).testBit i = true ∨ Apart c ops e x y i j) := by
  simp only [regOk, Bool.and_eq_true, List.all_eq_true, List.mem_range] at h
  refine ⟨h.1, fun j y hy => ?_⟩
  have hj := (Array.getElem?_eq_some_iff.1 hy).1
  have h2 := h.2 j hj
  rw [hy] at h2
  simp only [Bool.and_eq_true, List.all_eq_true, List.mem_range, Bool.or_eq_true, Bool.not_eq_true', decide_eq_true_eq] at h2
  refine ⟨fun e he hb => ?_, fun i x hi hx => ?_⟩
  · rcases h2.1 e (by simpa using he) with h | h
    · rw [h] at hb; cases hb
    · exact h
  · have h3 := h2.2 i hi
    rw [hx] at h3
    rcases h3 with h3 | h3
    · exact .inl h3
    simp only [Bool.and_eq_true, Bool.or_eq_true] at h3
    cases hbit : ((befs ops.toList []).getD j 0).testBit i with
    | true => exact .inl rfl
    | false =>
    right
    refine ⟨h3.1, ?_⟩
    cases h0 : rel0 c ops x y with
    | true =>
      simp only [rel0, Bool.or_eq_true, Bool.and_eq_true, decide_eq_true_eq] at h0
      rcases h0 with h0 | h0 | h0
      · left; unfold clsR; split <;> omega
      · exact .inr (.inl h0)
      · left; unfold clsR; rw [if_pos h0, if_pos h0]; omega
    | false =>
      have h4 := h3.2.resolve_left (by rw [h0]; simp)
      have need : newB c x = true ∨ newB c y = true → ∀ q, (wlOf ops x = some q ∨ wlOf ops y = some q) → refAt e q = true := by
        intro hn q hq
        refine List.all_eq_true.1 hr q ?_
        unfold needs
        have hany : ops.toList.any (newB c) = true := by
          rw [List.any_eq_true]
          rcases hn with hn | hn
          · exact ⟨x, List.mem_of_getElem? (i := i) (by simpa using hx), hn⟩
          · exact ⟨y, List.mem_of_getElem? (i := j) (by simpa using hy), hn⟩
        rw [hany, cond_true]
        simp only
        rw [List.mem_flatMap]
        refine ⟨j, List.mem_range.2 hj, ?_⟩
        rw [hy]
        simp only
        rw [List.mem_flatMap]
        refine ⟨i, List.mem_range.2 hi, ?_⟩
        rw [hx]
        simp only
        have hor : (newB c x || newB c y) = true := by rcases hn with hn | hn <;> simp [hn]
        rw [hor, hbit, h0]
        simp only [cond_true, Bool.or_self, cond_false, List.mem_append]
        rcases hq with hq | hq
        · left; rw [hq]; simp
        · right; rw [hq]; simp
      simp only [wkS, Bool.and_eq_true] at h4
      rcases h4 with ⟨n1, n2⟩ | ⟨n1, n2⟩ | h4
      · obtain ⟨q, hq⟩ := Option.isSome_iff_exists.1 n2
        exact .inr (.inr (.inl ⟨n1, q, hq, need (.inr n1) q (.inl hq)⟩))
      · obtain ⟨q, hq⟩ := Option.isSome_iff_exists.1 n2
        exact .inr (.inr (.inr (.inl ⟨n1, q, hq, need (.inl n1) q (.inr hq)⟩)))
      · exact .inr (.inr (.inr (.inr (h4.imp id fun h => by simpa using h))))

/-- the run's states -/
def States (c : Ctx) (g : Call1) (ops : Array Oper) (st : Nat → St) (rc : Nat → Rec) : Prop :=
  ∀ k o, ops[k]? = some o → (rc k).s = st k ∧ (rc k).Ok c g ops.toList o ∧ st (k + 1) = ⟨putE (st k).env o.dst (rc k).v, (rc k).H⟩
theorem run_states {all : List Oper} : ∀ {os : List Oper} {s : St} {rs : List Rec} {s' : St}, Run c g all os s rs s' →
    ∃ (st : Nat → St) (rc : Nat → Rec), st 0 = s ∧ st os.length = s' ∧ ∀ k o, os[k]? = some o → (rc k).s = st k ∧ (rc k).Ok c g all o ∧ st (k + 1) = ⟨putE (st k).env o.dst (rc k).v, (rc k).H⟩
  | [], s, [], s', h => ⟨fun _ => s, fun _ => ⟨[], s, true, none, []⟩, rfl, h, fun k o hk => by simp at hk⟩
  | o :: os, s, r :: rs, s', h => by
    obtain ⟨h1, h2, h3⟩ := h
    obtain ⟨st, rc, i1, i2, i3⟩ := run_states h3
    refine ⟨fun | 0 => s | k + 1 => st k, fun | 0 => r | k + 1 => rc k, rfl, i2, fun k o' hk => ?_⟩
    cases k with
    | zero =>
      simp only [List.getElem?_cons_zero, Option.some.injEq] at hk
      subst hk
      exact ⟨h1, h2, i1⟩
    | succ k => exact i3 k o' (by simpa using hk)
  | [], _, _ :: _, _, h => h.elim
  | _ :: _, _, [], _, h => h.elim

end
end Go.Ev

set_option linter.unusedVariables false
namespace Go.Ev
open Go
/-- objects and memory go on, and the ghosts change -/
structure Turn (G1 G2 : Gh) (β : Nat → Nat) (H : Heap) (W : Array Obj) (β' : Nat → Nat) (H' : Heap) (W' : Array Obj) : Prop where
  imm : ∀ b, @Imm G1 β H W b → W'[b]? = W[b]? ∧ @Imm G2 β' H' W' b
  len : H.length ≤ H'.length
  box : ∀ r as_, H.at r = some (.box as_) → β' r = β r ∧ ∃ as', H'.at r = some (.box as')
  arr : ∀ r sz n row, H.at r = some (.arr sz n row) → H'.at r = none ∨ (β' r = β r ∧ (∃ row', H'.at r = some (.arr sz n row') ∨ H'.at r = some (.fro sz n row')) ∧ cellsAt W' (β r) = cellsAt W (β r))
  fro : ∀ r sz n row, H.at r = some (.fro sz n row) → β' r = β r ∧ H'.at r = some (.fro sz n row) ∧ cellsAt W' (β r) = cellsAt W (β r)
  dead : ∀ r, r < H.length → H.at r = none → H'.at r = none
theorem R.turn {G1 G2 : Gh} {β β' : Nat → Nat} {H H' : Heap} {W W' : Array Obj} (k : Turn G1 G2 β H W β' H' W') {v : Value} {a : AV} (h : @R G1 β H W v a) : @R G2 β' H' W' v a := by
  induction h with
  | int k n => exact .int k n
  | bool b => exact .bool b
  | str s => exact .str s
  | sl0 a c sz row full hf => exact .sl0 a c sz row full hf
  | sl b o n c sz row full cs e fz vf hi hW hc hf hl hv hR ih =>
    obtain ⟨e1, i1⟩ := k.imm b hi
    exact .sl b o n c sz row full cs e fz vf i1 (e1.trans hW) hc hf hl hv ih
  | osl r off len c sz N m row full a ha hH hW hn hc hf hs hu =>
    rcases hH with hH | hH
    · rcases k.arr r sz N row hH with hd | ⟨e1, ⟨row', h1⟩, hm⟩
      · exact .osld sz r off len c (β r) (off * sz) full a ha hc hf (Nat.lt_of_lt_of_le (Heap.at_lt hH) k.len) hd
      · exact .osl r off len c sz N m row' full a (by rw [e1]; exact ha) h1 (by rw [e1, hm]; exact hW) hn hc hf hs hu
    · obtain ⟨e1, h1, hm⟩ := k.fro r sz N row hH
      exact .osl r off len c sz N m row full a (by rw [e1]; exact ha) (.inr h1) (by rw [e1, hm]; exact hW) hn hc hf hs hu
  | osld sz r off len c b o full a ha hc hf hr hH => exact .osld sz r off len c b o full a ha hc hf (Nat.lt_of_lt_of_le hr k.len) (k.dead r hr hH)
  | ref r off cs hH =>
    obtain ⟨e1, as', h1⟩ := k.box r cs hH
    rw [← e1]
    exact .ref r off as' h1
  | eref r i off sz N row hH hi =>
    rcases hH with hH | hH
    · rcases k.arr r sz N row hH with hd | ⟨e1, ⟨row', h1⟩, hm⟩
      · exact .erefd r i off _ (Nat.lt_of_lt_of_le (Heap.at_lt hH) k.len) hd
      · rw [← e1]; exact .eref r i off sz N row' h1 hi
    · obtain ⟨e1, h1, hm⟩ := k.fro r sz N row hH
      rw [← e1]; exact .eref r i off sz N row (.inr h1) hi
  | erefd r i off a hr hH => exact .erefd r i off a (Nat.lt_of_lt_of_le hr k.len) (k.dead r hr hH)
  | rref b o off as_ cs e fz vf hi hW hl hv hR ih =>
    obtain ⟨e1, i1⟩ := k.imm b hi
    exact .rref b o off as_ cs e fz vf i1 (e1.trans hW) hl hv ih
  | lsl b o n sz as_ cs e fz vf hi hW hl hn hv hR ih =>
    obtain ⟨e1, i1⟩ := k.imm b hi
    exact .lsl b o n sz as_ cs e fz vf i1 (e1.trans hW) hl hn hv ih
  | lref b o off as_ cs e fz vf hi hW hl hv hR ih =>
    obtain ⟨e1, i1⟩ := k.imm b hi
    exact .lref b o off as_ cs e fz vf i1 (e1.trans hW) hl hv ih
  | nilp => exact .nilp
  | fn f vs us as_ bs hv hu hR hS ihR ihS => exact .fn f vs us as_ bs hv hu ihR ihS
  | nilfn => exact .nilfn
  | agg vs as_ hv hl hR ih => exact .agg vs as_ hv hl ih
  | tup vs as_ hv hR ih => exact .tup vs as_ hv ih
  | und => exact .und
theorem at_left {H X : Heap} {r : Nat} (h : r < H.length) : Heap.at (H ++ X) r = H.at r := by
  unfold Heap.at
  rw [List.getD_eq_getElem?_getD, List.getD_eq_getElem?_getD, List.getElem?_append_left h]
theorem at_new {H : Heap} {o : Ob} : Heap.at (H ++ [some o]) H.length = some o := by
  unfold Heap.at
  rw [List.getD_eq_getElem?_getD, List.getElem?_append_right (Nat.le_refl _)]
  simp
/-- a block more that is none's: a ghost -/
theorem push_hr [G : Gh] {β : Nat → Nat} {H : Heap} {W : Array Obj} {x : Obj} (h : HR β H W) :
    @HR ⟨fun b => Gh.g b ∨ b = W.size⟩ β H (W.push x) ∧ Turn G ⟨fun b => Gh.g b ∨ b = W.size⟩ β H W β H (W.push x) := by
  have hlt : ∀ r, Live H r → β r < W.size := by
    intro r hr
    rcases hr with ⟨cs, hr⟩ | ⟨sz, n, row, hr⟩
    · obtain ⟨vs, e, h1, _⟩ := h.box r cs hr; exact (Array.getElem?_eq_some_iff.1 h1).1
    · obtain ⟨vs, e, fz, h1, _⟩ := h.arr r sz n row hr; exact (Array.getElem?_eq_some_iff.1 h1).1
  have same : ∀ {b}, b < W.size → (W.push x)[b]? = W[b]? := by
    intro b hb
    rw [Array.getElem?_push]
    rw [if_neg (by omega)]
  have sameC : ∀ {b}, b < W.size → cellsAt (W.push x) b = cellsAt W b := by
    intro b hb; unfold cellsAt; rw [same hb]
  have hT : Turn G ⟨fun b => Gh.g b ∨ b = W.size⟩ β H W β H (W.push x) := by
    refine ⟨fun b hb => ⟨same hb.1, by rw [Array.size_push]; have := hb.1; omega, hb.2.1, fun hg => ?_⟩, Nat.le_refl _, fun r as_ hr => ⟨rfl, as_, hr⟩, fun r sz n row hr => .inr ⟨rfl, ⟨row, .inl hr⟩, sameC (hlt r (.inr ⟨sz, n, row, hr⟩))⟩, fun r sz n row hr => ⟨rfl, hr, ?_⟩, fun r _ hn => hn⟩
    · rcases hg with hg | hg
      · exact hb.2.2 hg
      · have := hb.1; omega
    · obtain ⟨vs, e, fz, h0, _⟩ := h.fro r sz n row hr
      exact sameC h0.1
  refine ⟨@HR.mk ⟨fun b => Gh.g b ∨ b = W.size⟩ _ _ _ h.inj (fun b hb => ?_) (fun r as_ hr => ?_) (fun r sz n row hr => ?_) (fun r sz n row hr => ?_), hT⟩
  · rw [Array.size_push]
    rcases hb with hb | hb
    · have := h.gh b hb
      exact ⟨by omega, this.2⟩
    · exact ⟨by omega, fun r hr he => by have := hlt r hr; omega⟩
  · obtain ⟨vs, e, q1, q2, q3, q4⟩ := h.box r as_ hr
    exact ⟨vs, e, by rw [same (hlt r (.inl ⟨as_, hr⟩))]; exact q1, q2, q3, fun j hj => R.turn hT (q4 j hj)⟩
  · obtain ⟨vs, e, fz, q1, q2, q3, q4, q5⟩ := h.arr r sz n row hr
    exact ⟨vs, e, fz, by rw [same (hlt r (.inr ⟨sz, n, row, hr⟩))]; exact q1, q2, q3, q4, fun i j hi hj => R.turn hT (q5 i j hi hj)⟩
  · obtain ⟨vs, e, fz, q0, q1, q2, q4, q5⟩ := h.fro r sz n row hr
    exact ⟨vs, e, fz, (hT.imm _ q0).2, by rw [same q0.1]; exact q1, q2, q4, fun i j hi hj => R.turn hT (q5 i j hi hj)⟩
def nb (β : Nat → Nat) (n b : Nat) : Nat → Nat := fun r => if r = n then b else β r
theorem nb_eq {β : Nat → Nat} {n b r : Nat} (h : r = n) : nb β n b r = b := if_pos h
theorem nb_ne {β : Nat → Nat} {n b r : Nat} (h : r ≠ n) : nb β n b r = β r := if_neg h
/-- a block that was left aside becomes an object -/
theorem late_hr {G1 G2 : Gh} {β : Nat → Nat} {H : Heap} {W : Array Obj} {z : List AV} {b : Nat} {vs : Array Value} {e : TypeId} (h : @HR G1 β H W) (hb1 : G1.g b) (hsub : ∀ x, G2.g x → G1.g x) (hb2 : ¬ G2.g b)
    (hw : W[b]? = some (.cells vs e (0, 0))) (hs : vs.size = z.length) (hl : allLeaf z = true) (hv : ∀ j, j < z.length → @R G1 β H W (vs.getD j undef) (z.getD j .und)) :
    @HR G2 (nb β H.length b) (H ++ [some (.box z)]) W ∧ Turn G1 G2 β H W (nb β H.length b) (H ++ [some (.box z)]) W := by
  have live : ∀ {r}, Live (H ++ [some (.box z)]) r → r ≠ H.length → Live H r := by
    intro r hr hne
    have hlt : r < H.length := by
      have : r < (H ++ [some (Ob.box z)]).length := by
        rcases hr with ⟨cs, h⟩ | ⟨a, b, c, h⟩ <;> exact Heap.at_lt h
      simp at this
      omega
    rcases hr with ⟨cs, h⟩ | ⟨a, b, c, h⟩
    · exact .inl ⟨cs, by rw [at_left hlt] at h; exact h⟩
    · exact .inr ⟨a, b, c, by rw [at_left hlt] at h; exact h⟩
  have hgb := @HR.gh G1 _ _ _ h b hb1
  have old : ∀ {r}, r < H.length → nb β H.length b r = β r := fun {r} hr => nb_ne (by omega)
  have hT : Turn G1 G2 β H W (nb β H.length b) (H ++ [some (.box z)]) W := by
    refine ⟨fun x hx => ⟨rfl, hx.1, fun r hr => ?_, fun hg => hx.2.2 (hsub x hg)⟩, by simp, fun r as_ hr => ⟨old (Heap.at_lt hr), as_, by rw [at_left (Heap.at_lt hr)]; exact hr⟩, fun r sz n row hr => .inr ⟨old (Heap.at_lt hr), ⟨row, .inl (by rw [at_left (Heap.at_lt hr)]; exact hr)⟩, rfl⟩,
      fun r sz n row hr => ⟨old (Heap.at_lt hr), by rw [at_left (Heap.at_lt hr)]; exact hr, rfl⟩, fun r hr hn => by rw [at_left hr]; exact hn⟩
    by_cases he : r = H.length
    · rw [nb_eq he]
      rintro rfl
      exact hx.2.2 hb1
    · rw [nb_ne he]
      exact hx.2.1 r (live hr he)
  refine ⟨@HR.mk G2 _ _ _ (fun r r' hr hr' hrr => ?_) (fun x hx => ⟨(@HR.gh G1 _ _ _ h x (hsub x hx)).1, fun r hr => ?_⟩) (fun r as_ hr => ?_) (fun r sz n row hr => ?_) (fun r sz n row hr => ?_), hT⟩
  · by_cases e1 : r = H.length
    · by_cases e2 : r' = H.length
      · omega
      · rw [nb_eq e1, nb_ne e2] at hrr
        exact absurd hrr.symm (hgb.2 r' (live hr' e2))
    · by_cases e2 : r' = H.length
      · rw [nb_ne e1, nb_eq e2] at hrr
        exact absurd hrr (hgb.2 r (live hr e1))
      · rw [nb_ne e1, nb_ne e2] at hrr
        exact @HR.inj G1 _ _ _ h r r' (live hr e1) (live hr' e2) hrr
  · by_cases e1 : r = H.length
    · rw [nb_eq e1]
      rintro rfl
      exact hb2 hx
    · rw [nb_ne e1]
      exact (@HR.gh G1 _ _ _ h x (hsub x hx)).2 r (live hr e1)
  · by_cases e1 : r = H.length
    · subst e1
      rw [at_new] at hr
      cases hr
      refine ⟨vs, e, by rw [nb_eq rfl]; exact hw, hs, hl, fun j hj => R.turn hT (hv j hj)⟩
    · have hlt : r < H.length := by
        have := Heap.at_lt hr
        simp at this
        omega
      rw [at_left hlt] at hr
      obtain ⟨vs', e', q1, q2, q3, q4⟩ := @HR.box G1 _ _ _ h r as_ hr
      exact ⟨vs', e', by rw [nb_ne e1]; exact q1, q2, q3, fun j hj => R.turn hT (q4 j hj)⟩
  · have e1 : r ≠ H.length := by
      rintro rfl
      rw [at_new] at hr; cases hr
    have hlt : r < H.length := by
      have := Heap.at_lt hr
      simp at this
      omega
    rw [at_left hlt] at hr
    obtain ⟨vs', e', fz, q1, q2, q3, q4, q5⟩ := @HR.arr G1 _ _ _ h r sz n row hr
    exact ⟨vs', e', fz, by rw [nb_ne e1]; exact q1, q2, q3, q4, fun i j hi hj => R.turn hT (q5 i j hi hj)⟩
  · have e1 : r ≠ H.length := by
      rintro rfl
      rw [at_new] at hr; cases hr
    have hlt : r < H.length := by
      have := Heap.at_lt hr
      simp at this
      omega
    rw [at_left hlt] at hr
    obtain ⟨vs', e', fz, q0, q1, q2, q4, q5⟩ := @HR.fro G1 _ _ _ h r sz n row hr
    exact ⟨vs', e', fz, by rw [nb_ne e1]; exact (hT.imm _ q0).2, by rw [nb_ne e1]; exact q1, q2, q4, fun i j hi hj => R.turn hT (q5 i j hi hj)⟩
theorem Evo.turn {G : Gh} {β β' : Nat → Nat} {H H' : Heap} {W W' : Array Obj} (k : @Evo G β H W β' H' W') : Turn G G β H W β' H' W' :=
  ⟨@Evo.imm G _ _ _ _ _ _ k, @Evo.len G _ _ _ _ _ _ k, @Evo.box G _ _ _ _ _ _ k, @Evo.arr G _ _ _ _ _ _ k, @Evo.fro G _ _ _ _ _ _ k, @Evo.dead G _ _ _ _ _ _ k⟩
theorem Turn.trans {G1 G2 G3 : Gh} {β β' β'' : Nat → Nat} {H H' H'' : Heap} {W W' W'' : Array Obj} (k : Turn G1 G2 β H W β' H' W') (k' : Turn G2 G3 β' H' W' β'' H'' W'') : Turn G1 G3 β H W β'' H'' W'' := by
  refine ⟨fun b hb => ?_, Nat.le_trans k.len k'.len, fun r as_ hr => ?_, fun r sz n row hr => ?_, fun r sz n row hr => ?_, fun r hr hn => k'.dead r (Nat.lt_of_lt_of_le hr k.len) (k.dead r hr hn)⟩
  · obtain ⟨e1, i1⟩ := k.imm b hb
    obtain ⟨e2, i2⟩ := k'.imm b i1
    exact ⟨e2.trans e1, i2⟩
  · obtain ⟨e1, as', h1⟩ := k.box r as_ hr
    obtain ⟨e2, as'', h2⟩ := k'.box r as' h1
    exact ⟨e2.trans e1, as'', h2⟩
  · rcases k.arr r sz n row hr with hd | ⟨e1, ⟨row', h1⟩, hm⟩
    · exact .inl (k'.dead r (Nat.lt_of_lt_of_le (Heap.at_lt hr) k.len) hd)
    · rcases h1 with h1 | h1
      · rcases k'.arr r sz n row' h1 with hd | ⟨e2, h2, hm2⟩
        · exact .inl hd
        · exact .inr ⟨e2.trans e1, h2, by rw [← e1] at hm ⊢; exact hm2.trans hm⟩
      · obtain ⟨e2, h2, hm2⟩ := k'.fro r sz n row' h1
        exact .inr ⟨e2.trans e1, ⟨row', .inr h2⟩, by rw [← e1] at hm ⊢; exact hm2.trans hm⟩
  · obtain ⟨e1, h1, hm⟩ := k.fro r sz n row hr
    obtain ⟨e2, h2, hm2⟩ := k'.fro r sz n row h1
    exact ⟨e2.trans e1, h2, by rw [← e1] at hm ⊢; exact hm2.trans hm⟩
end Go.Ev

set_option linter.unusedVariables false
set_option linter.unusedSimpArgs false
set_option linter.unusedSectionVars false
namespace Go.Ev
open Go

theorem inList_iff {t : Nat} : ∀ {l : List Nat}, inList t l = true ↔ t ∈ l
  | [] => by simp [inList]
  | x :: xs => by
    unfold inList
    by_cases h : x = t
    · simp [h]
    · rw [if_neg h, inList_iff]
      simp [Ne.symm h]
theorem keep_length {ts : List Nat} : ∀ {i : Nat} {e : List (Option AV)}, (keep ts i e).length = e.length
  | i, [] => rfl
  | i, a :: e => by simp [keep, keep_length]
theorem keep_getD {ts : List Nat} : ∀ {i : Nat} {e : List (Option AV)} {t : Nat}, (keep ts i e).getD t none = if inList (i + t) ts = true then e.getD t none else none
  | i, [], t => by simp [keep]
  | i, a :: e, 0 => by simp [keep]
  | i, a :: e, t + 1 => by
    have := keep_getD (ts := ts) (i := i + 1) (e := e) (t := t)
    rw [show i + 1 + t = i + (t + 1) by omega] at this
    simpa [keep] using this
theorem find1_key {α : Type} {p : Nat → Bool} {t : Nat} : ∀ {kn : List (Nat × α)}, find1 t (kn.filter fun q => p q.1) = if p t = true then find1 t kn else none
  | [] => by simp [find1]
  | (u, a) :: kn => by
    rw [List.filter_cons]
    have ih := find1_key (p := p) (t := t) (kn := kn)
    by_cases hu : u = t
    · subst hu
      by_cases hp : p u = true
      · simp [hp, find1]
      · simp only [hp, if_false, Bool.false_eq_true] at ih ⊢
        exact ih
    · by_cases hp : p u = true
      · simp only [hp, if_true, find1, if_neg hu]; exact ih
      · simp only [hp, if_false, find1, if_neg hu, Bool.false_eq_true]; exact ih
/-! ### operations that make objects -/
section
variable {ρ : Type} {c : Ctx} {kn : Kn} {e : List (Option AV)}
theorem atl_app {H X : Heap} {r : Nat} (h : r < H.length) : Heap.at (H ++ X) r = H.at r := by
  unfold Heap.at
  rw [List.getD_eq_getElem?_getD, List.getD_eq_getElem?_getD, List.getElem?_append_left h]
theorem atl_some {H : Heap} {r : Nat} {ob : Ob} (h : H.at r = some ob) : r < H.length := by
  apply Classical.byContradiction
  intro hn
  unfold Heap.at at h
  rw [List.getD_eq_getElem?_getD, List.getElem?_eq_none (by omega)] at h
  cases h
theorem atl_set {H : Heap} {r r' : Nat} {ob : Option Ob} (h : r' < H.length) : Heap.at (H.set r' ob) r = if r = r' then ob else H.at r := by
  unfold Heap.at
  rw [List.getD_eq_getElem?_getD, List.getD_eq_getElem?_getD]
  by_cases hr : r = r'
  · subst hr
    rw [if_pos rfl, List.getElem?_set_self h]; rfl
  · rw [if_neg hr, List.getElem?_set_ne (Ne.symm hr)]
theorem opt_val {α : Type} (v : α) (κ : α → Option ρ) : opt (some v) κ = κ v := rfl
/-- boxes stay -/
def Stays (H H' : Heap) : Prop := H.length ≤ H'.length ∧ ∀ r, r < H.length → ∀ cs, H.at r = some (.box cs) ↔ H'.at r = some (.box cs)
theorem Stays.refl (H : Heap) : Stays H H := ⟨Nat.le_refl _, fun _ _ _ => Iff.rfl⟩
theorem Stays.app (H X : Heap) : Stays H (H ++ X) := ⟨by simp, fun r hr cs => by rw [atl_app hr]⟩
theorem Stays.trans {H H' H'' : Heap} (h : Stays H H') (h' : Stays H' H'') : Stays H H'' := ⟨Nat.le_trans h.1 h'.1, fun r hr cs => (h.2 r hr cs).trans (h'.2 r (Nat.lt_of_lt_of_le hr h.1) cs)⟩
theorem Stays.set {H : Heap} {r sz n : Nat} {row : Nat → List AV} {ob : Option Ob} (h : H.at r = some (.arr sz n row)) (hob : ∀ cs, ob ≠ some (.box cs)) : Stays H (H.set r ob) := by
  refine ⟨by simp, fun r' hr' cs => ?_⟩
  rw [atl_set (atl_some h)]
  by_cases hr : r' = r
  · subst hr
    rw [if_pos rfl, h]
    exact ⟨fun h => (by cases h), fun h => absurd h (hob cs)⟩
  · rw [if_neg hr]
/-- calls that leave boxes be -/
def Call1.Stay (g : Call1) : Prop := ∀ f as_ H av H', g f as_ H = some (av, H') → Stays H H'
theorem appendE_stays {sz bytes m : Nat} {H H' : Heap} {x : AV} {row' : Nat → List AV} {v : Option AV} (h : appendE sz bytes H x m row' (fun v H => some (some v, H)) = some (v, H')) : Stays H H' := by
  unfold appendE at h
  split at h
  · split at h
    · cases hm : decide (m = 0) with
      | true => rw [hm] at h; cases h; exact .refl _
      | false =>
        rw [hm, cond_false] at h
        obtain ⟨_, h⟩ := bif_some h
        cases h; exact .app _ _
    · cases h
  · split at h
    · rename_i hr
      split at h
      · cases hm : decide (m = 0) with
        | true => rw [hm] at h; cases h; exact .refl _
        | false =>
          rw [hm, cond_false] at h
          rename_i full _ _ _ _ _
          cases full with
          | true =>
            rw [cond_true] at h
            obtain ⟨_, h⟩ := bif_some h
            cases h; exact .app _ _
          | false =>
            rw [cond_false] at h
            generalize decide (_ + _ + m ≤ _) = b1 at h
            cases b1 with
            | true => cases h; exact .set hr (fun cs h => by cases h)
            | false =>
              rw [cond_false] at h
              obtain ⟨_, h⟩ := bif_some h
              cases h
              exact (Stays.set hr (fun cs h => by cases h)).trans (.app _ _)
      · cases h
    · cases h
  · cases h
theorem copyE_stays {H H' : Heap} {x y : AV} {v : Option AV} (h : copyE H x y (fun v H => some (some v, H)) = some (v, H')) : Stays H H' := by
  unfold copyE at h
  split at h
  · split at h
    · rename_i hr
      split at h
      · cases h; exact .set hr (fun cs h => by cases h)
      · cases h
    · cases h
  · cases h
theorem opE_alloc {g : Call1} {o : Oper} (ha : allocB o = true) {H H' : Heap} {v : Option AV} (h : opE c g.on o kn e H (fun v H => some (v, H)) = some (v, H')) : ∃ X, H' = H ++ X := by
  unfold allocB at ha
  unfold opE at h
  split at ha
  · rename_i ho
    simp only [ho] at h
    obtain ⟨_, _, h⟩ := opt_some h
    cases h; exact ⟨_, rfl⟩
  · rename_i ho
    simp only [ho] at h
    obtain ⟨_, _, h⟩ := opt_some h
    split at h
    · cases h; exact ⟨_, rfl⟩
    · cases h
  · rename_i ho
    simp only [ho] at h
    obtain ⟨_, _, h⟩ := opt_some h
    obtain ⟨_, _, h⟩ := opt_some h
    split at h
    · obtain ⟨_, _, h⟩ := opt_some h
      obtain ⟨_, h⟩ := bif_some h
      cases h; exact ⟨_, rfl⟩
    · cases h
  · cases ha
theorem opE_new {g : Call1} (hsy : g.Stay) {o : Oper} (ha : newB c o = true) {H H' : Heap} {v : Option AV} (h : opE c g.on o kn e H (fun v H => some (v, H)) = some (v, H')) : Stays H H' := by
  by_cases hal : allocB o = true
  · obtain ⟨X, rfl⟩ := opE_alloc hal h
    exact .app _ _
  · unfold newB at ha
    unfold allocB at hal
    split at ha
    · rename_i ho; simp [ho] at hal
    · rename_i ho; simp [ho] at hal
    · rename_i ho; simp [ho] at hal
    · rename_i cl ho
      unfold opE at h
      simp only [ho] at h
      obtain ⟨as_, _, h⟩ := opt_some h
      split at ha
      · rename_i hc
        simp only [hc] at h
        unfold builtinE at h
        split at h <;> first | contradiction | skip
        · split at h
          · split at h
            · split at h
              · split at h
                · obtain ⟨_, h⟩ := bif_some h
                  exact appendE_stays h
                · cases h
              · split at h
                · obtain ⟨_, _, h⟩ := opt_some h
                  simp only at h
                  split at h
                  · exact appendE_stays h
                  · cases h
                · cases h
            · cases h
          · cases h
      · rename_i hc
        simp only [hc] at h
        unfold builtinE at h
        split at h <;> first | contradiction | skip
        · split at h
          · split at h
            · split at h
              · exact copyE_stays h
              · cases h
            · cases h
          · cases h
      · rename_i fo hcal
        simp only [hcal] at h
        obtain ⟨fv, hfv, h1⟩ := opt_some h
        split at h1
        · unfold Call1.on at h1
          rename_i f first caps
          generalize hA : first ++ _ ++ caps = A at h1
          cases hc : g f A H with
          | none => rw [hc] at h1; cases h1
          | some p => rw [hc] at h1; cases h1; exact hsy _ _ _ _ _ hc
        · cases h1
      · cases ha
    · cases ha
theorem new_cls {o : Oper} (h : newB c o = true) : cls c o = 2 := by
  unfold newB at h
  split at h
  · rename_i ho; unfold cls; simp [ho]
  · rename_i ho; unfold cls; simp [ho]
  · rename_i ho; unfold cls; simp [ho]
  · rename_i cl ho
    split at h
    · rename_i hc; unfold cls; simp [ho, hc]
    · rename_i hc; unfold cls; simp [ho, hc]
    · exact of_decide_eq_true h
    · cases h
  · cases h
theorem alloc_new {o : Oper} (h : allocB o = true) : newB c o = true := by
  unfold allocB at h
  unfold newB
  split at h
  · rename_i ho; simp [ho]
  · rename_i ho; simp [ho]
  · rename_i ho; simp [ho]
  · cases h
theorem rows_app {H X : Heap} {r : Nat} {z : Nat × Nat × (Nat → List AV)} (h : rowsOf H r = some z) : rowsOf (H ++ X) r = some z := by
  unfold rowsOf at h ⊢
  cases hr : H.at r with
  | none => rw [hr] at h; cases h
  | some ob => rw [atl_app (atl_some hr)]; exact h
theorem load_app {H X : Heap} {ty : Ty} {p v : AV} (h : loadAV H ty p = some v) : loadAV (H ++ X) ty p = some v := by
  unfold loadAV at h ⊢
  split at h
  · rename_i r off
    cases hr : H.at r with
    | none => rw [hr] at h; cases h
    | some ob => rw [atl_app (atl_some hr)]; exact h
  · exact h
  · exact h
  · rename_i r i off
    cases hr : rowsOf H r with
    | none => rw [hr] at h; cases h
    | some z => rw [rows_app hr, ← hr]; exact h
  · cases h
theorem srcl_app {H X : Heap} {a : AV} {z : Nat × Nat × (Nat → List AV)} (h : srcOf H a = some z) : srcOf (H ++ X) a = some z := by
  unfold srcOf at h ⊢
  split at h
  · exact h
  · rename_i r off len full
    cases hr : rowsOf H r with
    | none => rw [hr] at h; cases h
    | some z => rw [rows_app hr, ← hr]; exact h
  · exact h
  · cases h
theorem opE_mono {g : Call1} (hg : g.Quiet c) (hm : g.Mono c) {o : Oper} (h : cls c o = 1) {H X H' : Heap} {v : Option AV} (hx : opE c g.on o kn e H (fun v H => some (v, H)) = some (v, H')) : opE c g.on o kn e (H ++ X) (fun v H => some (v, H)) = some (v, H ++ X) := by
  have hH := opE_one hg h hx
  subst hH
  unfold cls at h
  unfold opE at hx ⊢
  split at hx <;> first | (cases hx; done) | (rename_i ho; rw [ho] at h; simp only at h; first | omega | skip)
  · obtain ⟨p, h1, hx⟩ := opt_some hx
    obtain ⟨ty, h2, hx⟩ := opt_some hx
    rw [loadE_eq] at hx
    obtain ⟨v', h3, hx⟩ := opt_some hx
    rw [h1, opt_val, h2, opt_val, loadE_eq, load_app h3, opt_val]
    cases hx; rfl
  · obtain ⟨a, h1, hx⟩ := opt_some hx
    rw [h1, opt_val]
    split at hx
    · obtain ⟨z, h2, hx⟩ := opt_some hx
      rw [srcl_app h2, opt_val]
      simp only at hx ⊢
      rcases hc : convAV c _ _ _ with _ | ⟨b, u⟩
      · rw [hc] at hx; cases hx
      · rw [hc] at hx; cases b
        · cases hx
        · cases hx; rfl
    · rcases hc : convAV c _ _ a with _ | ⟨b, u⟩
      · rw [hc] at hx; cases hx
      · rw [hc] at hx; cases b
        · cases hx
        · cases hx; rfl
  · obtain ⟨as_, h1, hx⟩ := opt_some hx
    rw [h1, opt_val]
    split at hx
    · rename_i b hc
      rw [hc] at h
      cases b <;> simp at h
    · rename_i fo hcal
      rw [hcal] at h
      obtain ⟨fv, h2, hx1⟩ := opt_some hx
      cases fo with
      | func fn =>
        simp only [opd] at h2
        cases h2
        simp only at hx1 h
        have hne : c.modeOf fn ≠ .fresh ∧ c.modeOf fn ≠ .heap := by
          constructor <;> (intro he; rw [he] at h; simp at h)
        simp only [opd, opt_val]
        unfold Call1.on at hx1 ⊢
        generalize hA : [] ++ _ ++ [] = A at hx1 ⊢
        cases hc : g fn A H' with
        | none => rw [hc] at hx1; cases hx1
        | some p =>
          obtain ⟨av, H2⟩ := p
          have := hg _ _ _ _ _ hne hc
          subst this
          rw [hc] at hx1
          cases hx1
          rw [hm _ _ _ X _ _ hne hc]; rfl
      | _ => simp at h
    · cases hx
end
theorem cls_le (c : Ctx) (o : Oper) : cls c o ≤ 2 := by
  unfold cls
  split <;> (try split) <;> (try split) <;> omega
theorem clsR_le (c : Ctx) (ops : Array Oper) (o : Oper) : clsR c ops o ≤ cls c o := by
  unfold clsR
  split <;> omega
theorem clsR_zero {c : Ctx} {ops : Array Oper} {o : Oper} (h : clsR c ops o = 0) : cls c o = 0 := by
  unfold clsR at h
  split at h <;> omega
/-- what memory holds are leaves -/
def LeafH (H : Heap) : Prop := (∀ r cs, H.at r = some (.box cs) → allLeaf cs = true) ∧ ∀ r sz n row, H.at r = some (.arr sz n row) → ∀ i, i < n → allLeaf (row i) = true
theorem leaf_at {cs : List AV} {i : Nat} {v : AV} (h : allLeaf cs = true) (hi : cs[i]? = some v) : v.leaf = true := by
  induction cs generalizing i with
  | nil => simp at hi
  | cons a cs ih =>
    simp only [allLeaf, Bool.and_eq_true] at h
    cases i with
    | zero => simp at hi; subst hi; exact h.1
    | succ i => exact ih h.2 (by simpa using hi)
theorem cells_same {ty : Ty} {cs : List AV} {off : Nat} {v : AV} (hl : allLeaf cs = true) (h : ldCells ty cs off = some v) : stCells cs off v.cells = cs := by
  unfold ldCells at h
  unfold stCells
  split at h
  · split at h
    · rename_i hle
      cases h
      simp only [AV.cells, List.length_take, List.length_drop]
      rw [Nat.min_eq_left (by omega), List.append_assoc, ← List.drop_drop, List.take_append_drop, List.take_append_drop]
    · cases h
  · have hv := leaf_at hl h
    have hc : v.cells = [v] := by
      cases v <;> first | rfl | cases hv
    rw [hc]
    obtain ⟨hlt, hget⟩ := List.getElem?_eq_some_iff.1 h
    rw [List.length_singleton, List.append_assoc, ← hget, List.singleton_append, ← List.drop_eq_getElem_cons hlt, List.take_append_drop]
theorem set_same {H : Heap} {r : Nat} {ob : Ob} (h : H.at r = some ob) : H.set r (some ob) = H := by
  unfold Heap.at at h
  rw [List.getD_eq_getElem?_getD] at h
  cases hh : H[r]? with
  | none => rw [hh] at h; cases h
  | some x =>
    rw [hh] at h
    obtain ⟨hlt, hget⟩ := List.getElem?_eq_some_iff.1 hh
    simp only [Option.getD_some] at h
    rw [h] at hget
    rw [← hget, List.set_getElem_self]
theorem store_same {H H' : Heap} {ty : Ty} {p v : AV} (hL : LeafH H) (h1 : loadAV H ty p = some v) (h2 : storeAV H ty p v = some H') : H' = H := by
  unfold storeAV at h2
  simp only at h2
  split at h2
  · split at h2
    · rename_i r off
      split at h2
      · rename_i cs hr
        split at h2
        · cases h2
          unfold loadAV at h1
          simp only [hr] at h1
          rw [cells_same (hL.1 _ _ hr) h1]
          exact set_same hr
        · cases h2
      · cases h2
    · rename_i r i off
      split at h2
      · rename_i sz n row hr
        split at h2
        · rename_i hc
          cases h2
          unfold loadAV at h1
          simp only [rowsOf, hr] at h1
          rw [if_pos hc.1] at h1
          rw [cells_same (hL.2 _ _ _ _ hr i hc.1) h1]
          have : (fun j => if j = i then row i else row j) = row := by
            funext j
            split
            · rename_i hj; rw [hj]
            · rfl
          rw [this]
          exact set_same hr
        · cases h2
      · cases h2
    · cases h2
  · cases h2

variable [Gh]
section
variable {P : Program} {c : Ctx} {g : Call1} {ops : Array Oper} {Q : Exit → Act → World → Prop} {st : Nat → St} {rc : Nat → Rec}

theorem st_len (hst : States c g ops st rc) : ∀ k, k ≤ ops.size → (st k).env.length = (st 0).env.length
  | 0, _ => rfl
  | k + 1, h => by
    obtain ⟨_, _, h3⟩ := hst k ops[k] (Array.getElem?_eq_getElem (by omega))
    rw [h3, putE_length]; exact st_len hst k (by omega)
theorem st_env (hst : States c g ops st rc) {t : Nat} {i : Nat} : ∀ d, i + d ≤ ops.size → (∀ k o, i ≤ k → k < i + d → ops[k]? = some o → o.dst ≠ some t) → (st (i + d)).env.getD t none = (st i).env.getD t none
  | 0, _, _ => rfl
  | d + 1, h, hn => by
    have ho := Array.getElem?_eq_getElem (show i + d < ops.size by omega)
    obtain ⟨_, _, h3⟩ := hst (i + d) _ ho
    rw [← Nat.add_assoc, h3, putE_getD (fun d' hd' hh => hn (i + d) _ (by omega) (by omega) ho (by rw [hd', hh]))]
    exact st_env hst d (by omega) fun k o h1 h2 => hn k o h1 (by omega)
theorem st_heap1' (hg : g.Quiet c) (hst : States c g ops st rc) {k : Nat} {o : Oper} (ho : ops[k]? = some o) (h : cls c o ≠ 2) : (st (k + 1)).heap = (st k).heap := by
  obtain ⟨h1, ⟨_, _, h2⟩, h3⟩ := hst k o ho
  rw [h3]
  simp only
  have hc := cls_le c o
  split at h2
  · rw [h1] at h2
    rcases (show cls c o = 0 ∨ cls c o = 1 by omega) with h0 | h0
    · exact (opE_zero (H2 := []) h0 h2).2
    · exact opE_one hg h0 h2
  · rw [h2.2, h1]
theorem wb_heap (hg : g.Quiet c) (hL : LeafH (st 0).heap) (hw : wbReg c ops = true) (hst : States c g ops st rc) : ∀ k, k ≤ ops.size → (st k).heap = (st 0).heap := by
  intro k
  induction k using Nat.strongRecOn with
  | ind k ih =>
    intro hk
    cases k with
    | zero => rfl
    | succ k =>
      have ho := Array.getElem?_eq_getElem (show k < ops.size by omega)
      generalize ops[k] = o at ho
      have hbase := ih k (by omega) (by omega)
      by_cases hc : cls c o = 2
      · obtain ⟨t, p, v, i, x, hop, hgd, hi, hx, hxo, hxd, hxg, hp, hv⟩ := wb_spec hw ho hc
        obtain ⟨a1, ⟨_, a2, a3⟩, a4⟩ := hst k o ho
        obtain ⟨b1, ⟨_, b2, b3⟩, b4⟩ := hst i x hx
        have hli := ih i (by omega) (by omega)
        simp only [GuardOn, hgd] at a2
        simp only [GuardOn, hxg] at b2
        rw [a2, if_pos rfl, a1] at a3
        rw [b2, if_pos rfl, b1] at b3
        unfold opE at a3 b3
        simp only [hop] at a3
        simp only [hxo] at b3
        obtain ⟨pv, e1, a3⟩ := opt_some a3
        obtain ⟨vv, e2, a3⟩ := opt_some a3
        obtain ⟨ty, e3, a3⟩ := opt_some a3
        rw [storeE_eq] at a3
        obtain ⟨H', e4, a5⟩ := opt_some a3
        have hrh : (rc k).H = H' := ((Prod.mk.inj (Option.some.inj a5)).2).symm
        obtain ⟨pv', f1, b3⟩ := opt_some b3
        obtain ⟨ty', f3, b3⟩ := opt_some b3
        rw [loadE_eq] at b3
        obtain ⟨vv', f4, b5⟩ := opt_some b3
        have hrv : (rc i).v = some vv' := ((Prod.mk.inj (Option.some.inj b5)).1).symm
        rw [e3] at f3
        cases f3
        simp only [opd] at e1 f1
        simp only [Ctx.opdT] at e2
        have hpe := st_env hst (t := p) (i := i) (k - i) (by omega) fun m y h1 h2 hy => hp m y h1 (by omega) hy
        rw [show i + (k - i) = k by omega, e1, f1] at hpe
        cases hpe
        have hve := st_env hst (t := v) (i := i + 1) (k - (i + 1)) (by omega) fun m y h1 h2 hy => hv m y (by omega) (by omega) hy
        rw [show i + 1 + (k - (i + 1)) = k by omega, e2, b4] at hve
        simp only [hxd] at hve
        have hlv : v < (st i).env.length := by
          rw [st_len hst i (by omega), ← st_len hst k (by omega)]
          refine Nat.lt_of_not_le fun hle => ?_
          rw [List.getD_eq_getElem?_getD, List.getElem?_eq_none hle] at e2
          cases e2
        rw [putE_eq hlv] at hve
        rw [hrv] at hve
        cases hve
        rw [hli] at f4
        rw [hbase] at e4
        have := store_same hL f4 e4
        rw [a4]
        exact hrh.trans this
      · rw [← hbase]
        exact st_heap1' hg hst ho hc
theorem st_heap1 (hg : g.Quiet c) (hL : LeafH (st 0).heap) (hst : States c g ops st rc) {k : Nat} {o : Oper} (ho : ops[k]? = some o) (h : clsR c ops o ≠ 2) : (st (k + 1)).heap = (st k).heap := by
  have hk : k < ops.size := (Array.getElem?_eq_some_iff.1 ho).1
  unfold clsR at h
  split at h
  · rename_i hw
    rw [wb_heap hg hL hw hst (k + 1) (by omega), wb_heap hg hL hw hst k (by omega)]
  · exact st_heap1' hg hst ho h
theorem st_heap (hg : g.Quiet c) (hL : LeafH (st 0).heap) (hst : States c g ops st rc) {i : Nat} : ∀ d, i + d ≤ ops.size → (∀ k o, i ≤ k → k < i + d → ops[k]? = some o → clsR c ops o ≠ 2) → (st (i + d)).heap = (st i).heap
  | 0, _, _ => rfl
  | d + 1, h, hn => by
    have ho := Array.getElem?_eq_getElem (show i + d < ops.size by omega)
    rw [← Nat.add_assoc, st_heap1 hg hL hst ho (hn (i + d) _ (by omega) (by omega) ho)]
    exact st_heap hg hL hst d (by omega) fun k o h1 h2 => hn k o h1 (by omega)

def Cov (ops : Array Oper) (listed : Array Bool) (t i : Nat) : Prop := ∀ k o, ops[k]? = some o → o.dst = some t → (On listed k ↔ k < i)
def CovH (c : Ctx) (ops : Array Oper) (listed : Array Bool) (i : Nat) : Prop := ∀ k o, ops[k]? = some o → clsR c ops o = 2 → (On listed k ↔ k < i)
/-- a place that comes from before the region -/
theorem root_ref (hst : States c g ops st rc) {j : Nat} {o : Oper} (ho : ops[j]? = some o) (hlt : ∀ e ∈ o.after, Region.binds .any e = true → e.on < j) {p q r off : Nat} (hr : rootOf ops o p = some q) (he : (st 0).env.getD q none = some (.ref r off)) {av : AV} (hav : (st j).env.getD p none = some av) : (∃ off', av = .ref r off') ∨ av = .und := by
  have hj : j < ops.size := (Array.getElem?_eq_some_iff.1 ho).1
  have dst : ∀ {t : Nat} {y : Oper}, dstIs t y = true ↔ y.dst = some t := by
    intro t y
    unfold dstIs
    cases y.dst with
    | none => simp
    | some d => simp
  unfold rootOf at hr
  cases hany : ops.toList.any (dstIs p) with
  | false =>
    rw [hany, cond_false] at hr
    cases hr
    have := st_env hst (t := p) (i := 0) j (by omega) fun k x _ _ hx hd => by
      have h := List.any_eq_false.1 hany x (List.mem_of_getElem? (i := k) (by simpa using hx))
      exact h (dst.2 hd)
    rw [Nat.zero_add] at this
    rw [this, he] at hav
    cases hav
    exact .inl ⟨off, rfl⟩
  | true =>
    rw [hany, cond_true] at hr
    split at hr
    · rename_i ed hf
      have hm := List.mem_of_find?_eq_some hf
      have hp := List.find?_some hf
      split at hr
      · rename_i x hx
        rw [hx] at hp
        simp only [Bool.and_eq_true] at hp
        have hi : ed.on < j := hlt ed (by simpa using hm) hp.1
        split at hr
        · rename_i s q' f hop
          generalize hb : (ops.toList.any (dstIs q') || _) = b at hr
          cases b with
          | true => cases hr
          | false =>
            cases hr
            rw [Bool.or_eq_false_iff] at hb
            obtain ⟨hb1, hb2⟩ := hb
            have qk : ∀ (k : Nat) (y : Oper), ops[k]? = some y → y.dst ≠ some q := fun k y hy hd => List.any_eq_false.1 hb1 y (List.mem_of_getElem? (i := k) (by simpa using hy)) (dst.2 hd)
            have pk : ∀ (k : Nat) (y : Oper), k ≠ ed.on → ops[k]? = some y → y.dst ≠ some p := by
              intro k y hk hy hd
              have h := List.any_eq_false.1 hb2 k (List.mem_range.2 (Array.getElem?_eq_some_iff.1 hy).1)
              rw [hy] at h
              simp only [Bool.and_eq_true, Bool.not_eq_true', not_and] at h
              refine h ?_ (dst.2 hd)
              cases hbq : Nat.beq k ed.on with
              | false => rfl
              | true => exact absurd (Nat.eq_of_beq_eq_true hbq) hk
            have hpe := st_env hst (t := p) (i := ed.on + 1) (j - (ed.on + 1)) (by omega) fun k y h1 h2 hy => pk k y (by omega) hy
            rw [show ed.on + 1 + (j - (ed.on + 1)) = j by omega, hav] at hpe
            obtain ⟨a1, ⟨_, a2, a3⟩, a4⟩ := hst ed.on x hx
            rw [a4, dst.1 hp.2] at hpe
            simp only at hpe
            have hl : p < (st ed.on).env.length := by
              refine Nat.lt_of_not_le fun hle => ?_
              rw [List.getD_eq_getElem?_getD, List.getElem?_eq_none (by rw [putE_length]; exact hle)] at hpe
              cases hpe
            rw [putE_eq hl] at hpe
            cases hpe
            cases hex : (rc ed.on).ex with
            | false =>
              rw [hex] at a3
              rw [a3.1]; exact .inr rfl
            | true =>
              rw [hex, if_pos rfl, a1] at a3
              have hqe := st_env hst (t := q) (i := 0) ed.on (by omega) fun k y _ _ hy => qk k y hy
              rw [Nat.zero_add, he] at hqe
              unfold opE at a3
              simp only [hop] at a3
              obtain ⟨pv, e1, a3⟩ := opt_some a3
              simp only [opd] at e1
              rw [hqe] at e1
              cases e1
              split at a3
              · obtain ⟨_, _, a5⟩ := opt_some a3
                obtain ⟨_, _, a6⟩ := opt_some a5
                split at a6
                · cases a6
                · obtain ⟨v', e4, a7⟩ := opt_some a6
                  cases e4
                  have hv := (Prod.mk.inj (Option.some.inj a7)).1
                  rw [← hv]
                  exact .inl ⟨_, rfl⟩
              · cases a3
        · cases hr
      · cases hr
    · cases hr
theorem own_spec {i j : Nat} (h : ownS ops i j = true) : ∃ y t p v k a s, ops[j]? = some y ∧ y.op = .store t (.tmp p) v ∧ i < k ∧ k < j ∧ ops[k]? = some a ∧ a.op = .alloc s ∧ a.dst = some p ∧ a.guard = none ∧ ∀ m z, m ≠ k → ops[m]? = some z → z.dst ≠ some p := by
  unfold ownS at h
  split at h
  · cases h
  · rename_i y hy
    split at h
    · rename_i t p v hop
      simp only [List.any_eq_true, List.mem_range, Bool.and_eq_true, decide_eq_true_eq] at h
      obtain ⟨k, hk, hik, h⟩ := h
      split at h
      · cases h
      · rename_i a ha
        split at h
        · rename_i s hs
          simp only [Bool.and_eq_true, decide_eq_true_eq, Option.isNone_iff_eq_none, List.all_eq_true, List.mem_range, Bool.or_eq_true] at h
          refine ⟨y, t, p, v, k, a, s, hy, hop, hik, hk, ha, hs, h.1, h.2.1, fun m z hm hz => ?_⟩
          rcases h.2.2 m (Array.getElem?_eq_some_iff.1 hz).1 with h | h
          · exact absurd (Nat.eq_of_beq_eq_true h) hm
          · rw [hz] at h; simpa using h
        · cases h
    · cases h
/-- a store into an object of the region's own leaves alone what was there before -/
theorem own_step (hst : States c g ops st rc) {i j L : Nat} (h : ownS ops i j = true) (hL : ∀ m, i ≤ m → m ≤ j → L ≤ (st m).heap.length) : (st (j + 1)).heap = (st j).heap ∨ ∃ r ob, L ≤ r ∧ (st (j + 1)).heap = (st j).heap.set r (some ob) := by
  obtain ⟨y, t, p, v, k, a, s, h1, h2, h3, h4, h5, h6, h7, h8, h9⟩ := own_spec h
  have hjn : j < ops.size := (Array.getElem?_eq_some_iff.1 h1).1
  obtain ⟨a1, ⟨_, a2, a3⟩, a4⟩ := hst j y h1
  cases hex : (rc j).ex with
  | false =>
    rw [hex] at a3
    left; rw [a4]; simp only; rw [a3.2, a1]
  | true =>
    rw [hex, if_pos rfl, a1] at a3
    unfold opE at a3
    simp only [h2] at a3
    obtain ⟨pv, e1, a3⟩ := opt_some a3
    obtain ⟨vv, e2, a3⟩ := opt_some a3
    obtain ⟨ty, e3, a3⟩ := opt_some a3
    rw [storeE_eq] at a3
    obtain ⟨H', e4, a5⟩ := opt_some a3
    have hrh : (rc j).H = H' := ((Prod.mk.inj (Option.some.inj a5)).2).symm
    simp only [opd] at e1
    have hpe := st_env hst (t := p) (i := k + 1) (j - (k + 1)) (by omega) fun m z q1 q2 hz => h9 m z (by omega) hz
    rw [show k + 1 + (j - (k + 1)) = j by omega, e1] at hpe
    obtain ⟨b1, ⟨_, b2, b3⟩, b4⟩ := hst k a h5
    simp only [GuardOn, h8] at b2
    rw [b2, if_pos rfl, b1] at b3
    unfold opE at b3
    simp only [h6] at b3
    obtain ⟨ty', _, b5⟩ := opt_some b3
    have e5 : (rc k).v = some (.ref (st k).heap.length 0) := ((Prod.mk.inj (Option.some.inj b5)).1).symm
    rw [b4] at hpe
    simp only [h7] at hpe
    have hl : p < (st k).env.length := by
      refine Nat.lt_of_not_le fun hle => ?_
      rw [List.getD_eq_getElem?_getD, List.getElem?_eq_none (by rw [putE_length]; exact hle)] at hpe
      cases hpe
    rw [putE_eq hl, e5] at hpe
    cases hpe
    unfold storeAV at e4
    simp only at e4
    split at e4
    · simp only [Option.getD_some] at e4
      split at e4
      · split at e4
        · cases e4
          right
          exact ⟨(st k).heap.length, _, hL k (by omega) (by omega), (congrArg St.heap a4).trans hrh⟩
        · cases e4
      · cases e4
    · cases e4
theorem Stays.own {H H' : Heap} {r : Nat} {ob : Ob} (h : Stays H H') (hr : H.length ≤ r) : Stays H (H'.set r (some ob)) := by
  refine ⟨by simpa using h.1, fun q hq cs => ?_⟩
  by_cases hl : r < H'.length
  · rw [atl_set hl, if_neg (by omega)]; exact h.2 q hq cs
  · rw [List.set_eq_of_length_le (by omega)]; exact h.2 q hq cs
/-- boxes over a stretch of operations that make objects, or write into such -/
theorem st_box (hg : g.Quiet c) (hsy : g.Stay) (hL : LeafH (st 0).heap) (hst : States c g ops st rc) {i : Nat} : ∀ d, i + d ≤ ops.size → (∀ k x, i ≤ k → k < i + d → ops[k]? = some x → clsR c ops x = 2 → newB c x = true ∨ ownS ops i k = true) → Stays (st i).heap (st (i + d)).heap := by
  intro d
  induction d using Nat.strongRecOn with
  | ind d ih =>
    intro h hn
    cases d with
    | zero => exact .refl _
    | succ d =>
      have ho := Array.getElem?_eq_getElem (show i + d < ops.size by omega)
      have h0 := ih d (by omega) (by omega) fun k x h1 h2 hx => hn k x h1 (by omega) hx
      by_cases hc : clsR c ops ops[i + d] = 2
      · rcases hn (i + d) _ (by omega) (by omega) ho hc with hnew | hown
        · refine h0.trans ?_
          obtain ⟨a1, ⟨_, a2, a3⟩, a4⟩ := hst (i + d) _ ho
          rw [← Nat.add_assoc, a4]
          cases hex : (rc (i + d)).ex with
          | false => rw [hex] at a3; rw [show (rc (i + d)).H = (st (i + d)).heap by rw [← a1]; exact a3.2]; exact .refl _
          | true =>
            rw [hex, if_pos rfl, a1] at a3
            exact opE_new hsy hnew a3
        · rcases own_step hst (L := (st i).heap.length) hown (fun m h1 h2 => by
            have := ih (m - i) (by omega) (by omega) fun k x h3 h4 hx => hn k x h3 (by omega) hx
            rw [show i + (m - i) = m by omega] at this
            exact this.1) with e | ⟨r, ob, hr, e⟩
          · rw [← Nat.add_assoc, e]; exact h0
          · rw [← Nat.add_assoc, e]; exact h0.own hr
      · rw [← Nat.add_assoc, st_heap1 hg hL hst ho hc]; exact h0
theorem st_more (hg : g.Quiet c) (hL : LeafH (st 0).heap) (hst : States c g ops st rc) {i : Nat} : ∀ d, i + d ≤ ops.size → (∀ k x, i ≤ k → k < i + d → ops[k]? = some x → clsR c ops x = 2 → allocB x = true ∨ ownS ops i k = true) → ∃ X, (st (i + d)).heap = (st i).heap ++ X := by
  intro d
  induction d using Nat.strongRecOn with
  | ind d ih =>
    intro h hn
    cases d with
    | zero => exact ⟨[], by simp⟩
    | succ d =>
      have ho := Array.getElem?_eq_getElem (show i + d < ops.size by omega)
      obtain ⟨X, hX⟩ := ih d (by omega) (by omega) fun k x h1 h2 hx => hn k x h1 (by omega) hx
      by_cases hc : clsR c ops ops[i + d] = 2
      · rcases hn (i + d) _ (by omega) (by omega) ho hc with hnew | hown
        · obtain ⟨a1, ⟨_, a2, a3⟩, a4⟩ := hst (i + d) _ ho
          rw [← Nat.add_assoc, a4]
          cases hex : (rc (i + d)).ex with
          | false => rw [hex] at a3; exact ⟨X, by rw [← hX, ← a1]; exact a3.2⟩
          | true =>
            rw [hex, if_pos rfl, a1] at a3
            obtain ⟨Y, hY⟩ := opE_alloc hnew a3
            exact ⟨X ++ Y, by rw [← List.append_assoc, ← hX]; exact hY⟩
        · rcases own_step hst (L := (st i).heap.length) hown (fun m h1 h2 => by
            obtain ⟨Y, hY⟩ := ih (m - i) (by omega) (by omega) fun k x h3 h4 hx => hn k x h3 (by omega) hx
            rw [show i + (m - i) = m by omega] at hY
            rw [hY]; simp) with e | ⟨r, ob, hr, e⟩
          · exact ⟨X, by rw [← Nat.add_assoc, e]; exact hX⟩
          · refine ⟨X.set (r - (st i).heap.length) (some ob), ?_⟩
            rw [← Nat.add_assoc, e, hX, List.set_append_right _ _ hr]
      · rw [← Nat.add_assoc, st_heap1 hg hL hst ho hc]; exact ⟨X, hX⟩

/-- made early: listed, but not before the front f -/
def Pend (c : Ctx) (ops : Array Oper) (listed : Array Bool) (f k : Nat) : Prop := f ≤ k ∧ On listed k ∧ ∃ o, ops[k]? = some o ∧ clsR c ops o = 2
/-- where a run stands: all that writes before the front f is done, memory is as_ it is there in the text; what was made early is a ghost -/
structure Mid (c : Ctx) (ops : Array Oper) (st : Nat → St) (G : Gh) (β0 : Nat → Nat) (H0 : Heap) (w0 : World) (listed : Array Bool) (a : Act) (w : World) (f : Nat) (Gp : Gh) (β : Nat → Nat) (blk : Nat → Nat) : Prop where
  le : f ≤ ops.size
  past : ∀ k o, ops[k]? = some o → clsR c ops o = 2 → k < f → On listed k
  hr : @HR Gp β (st f).heap w.heap
  turn : Turn G Gp β0 H0 w0.heap β (st f).heap w.heap
  grow : w0.heap.size ≤ w.heap.size
  gh : ∀ b, G.g b → b < w0.heap.size → w.heap[b]? = w0.heap[b]?
  gp : ∀ b, Gp.g b ↔ G.g b ∨ ∃ k, Pend c ops listed f k ∧ b = blk k
  dif : ∀ k k', Pend c ops listed f k → Pend c ops listed f k' → blk k = blk k' → k = k'
  new : ∀ k, Pend c ops listed f k → ¬ G.g (blk k)
  pend : ∀ k o, Pend c ops listed f k → ops[k]? = some o → freeB c ops k = true ∧ ∃ t d ty vs e, o.op = .alloc t ∧ o.dst = some d ∧ c.tyOf t = some ty ∧ (d < a.tmps.size → a.tmps[d]? = some (.pointer (some ⟨blk k, 0, none⟩))) ∧
    w.heap[blk k]? = some (.cells vs e (0, 0)) ∧ vs.size = ty.zero.length ∧ allLeaf ty.zero = true ∧ ∀ [Gh] β H W j, j < ty.zero.length → R β H W (vs.getD j undef) (ty.zero.getD j .und)
  env : ∀ t i, i ≤ ops.size → Cov ops listed t i → (∀ k o, Pend c ops listed f k → ops[k]? = some o → o.dst ≠ some t) → ∀ av, (st i).env.getD t none = some av → ∃ v, a.tmps[t]? = some v ∧ @R Gp β (st f).heap w.heap v av
def Norm (c : Ctx) (ops : Array Oper) (listed : Array Bool) (f : Nat) : Prop := f = ops.size ∨ ∃ o, ops[f]? = some o ∧ clsR c ops o = 2 ∧ ¬ On listed f
structure Inv (c : Ctx) (ops : Array Oper) (st : Nat → St) (G : Gh) (a0 : Act) (β0 : Nat → Nat) (H0 : Heap) (w0 : World) (listed : Array Bool) (a : Act) (w : World) : Prop where
  size : listed.size = ops.size
  closed : Closed ops listed
  len : (st 0).env.length ≤ a.tmps.size
  defs : a.defers = a0.defers
  same : Same w0 w
  mid : ∃ f Gp β blk, Mid c ops st G β0 H0 w0 listed a w f Gp β blk ∧ Norm c ops listed f
theorem free_spec {j : Nat} (h : freeB c ops j = true) : ∃ y s t, ops[j]? = some y ∧ y.op = .alloc s ∧ y.dst = some t ∧ y.guard = none ∧
    ∀ k z, k ≠ j → ops[k]? = some z → z.dst ≠ some t ∧ (t ∈ z.looksAt ops → ∀ i x, i < j → ops[i]? = some x → cls c x = 2 → ((befs ops.toList []).getD k 0).testBit i = true) := by
  unfold freeB at h
  split at h
  · cases h
  · rename_i y hy
    split at h
    · rename_i s hs
      split at h
      · cases h
      · rename_i t ht
        simp only [Bool.and_eq_true, Option.isNone_iff_eq_none, List.all_eq_true, List.mem_range, Bool.or_eq_true] at h
        refine ⟨y, s, t, hy, hs, ht, h.1, fun k z hk hz => ?_⟩
        have h2 := h.2 k (Array.getElem?_eq_some_iff.1 hz).1
        rcases h2 with h2 | h2
        · exact absurd (Nat.eq_of_beq_eq_true h2) hk
        · rw [hz] at h2
          simp only [Bool.and_eq_true, Bool.or_eq_true, Bool.not_eq_true', decide_eq_true_eq, List.all_eq_true, List.mem_range] at h2
          refine ⟨h2.1, fun hin i x hi hx hc => ?_⟩
          rcases h2.2 with h3 | h3
          · rw [inList_iff.2 hin] at h3; cases h3
          · have := h3 i hi
            rw [hx] at this
            rcases this with h4 | h4
            · exact h4
            · simp only [decide_eq_true_eq] at h4; omega
    · cases h
theorem free_alloc {j : Nat} (h : freeB c ops j = true) {y : Oper} (hy : ops[j]? = some y) : allocB y = true := by
  obtain ⟨y', s, t, h1, h2, _⟩ := free_spec h
  rw [hy] at h1; cases h1
  unfold allocB; rw [h2]
/-- the front moves on -/
theorem settle {G : Gh} (hq : g.Quiet c) (hL : LeafH (st 0).heap) (hst : States c g ops st rc) {β0 : Nat → Nat} {H0 : Heap} {w0 : World} {listed : Array Bool} {a : Act} {w : World} (hlen : (st 0).env.length ≤ a.tmps.size) {blk : Nat → Nat} :
    ∀ d {f : Nat} {Gp : Gh} {β : Nat → Nat}, ops.size - f ≤ d → Mid c ops st G β0 H0 w0 listed a w f Gp β blk → ∃ f Gp β blk, Mid c ops st G β0 H0 w0 listed a w f Gp β blk ∧ Norm c ops listed f := by
  intro d
  induction d with
  | zero =>
    intro f Gp β hd h
    exact ⟨f, Gp, β, blk, h, .inl (by have := h.le; omega)⟩
  | succ d ih =>
    intro f Gp β hd h
    by_cases hf : f = ops.size
    · exact ⟨f, Gp, β, blk, h, .inl hf⟩
    have hfl : f < ops.size := by have := h.le; omega
    have ho := Array.getElem?_eq_getElem hfl
    generalize ops[f] = o at ho
    by_cases hc : clsR c ops o = 2
    · by_cases hon : On listed f
      · have hp : Pend c ops listed f f := ⟨Nat.le_refl _, hon, o, ho, hc⟩
        have hup : ∀ {k}, Pend c ops listed (f + 1) k → Pend c ops listed f k ∧ k ≠ f := fun {k} hk => ⟨⟨by have := hk.1; omega, hk.2⟩, by have := hk.1; omega⟩
        have hdn : ∀ {k}, Pend c ops listed f k → k ≠ f → Pend c ops listed (f + 1) k := fun {k} hk hne => ⟨by have := hk.1; omega, hk.2⟩
        obtain ⟨hfree, t, d', ty, vs, e, p1, p2, p3, p4, p5, p6, p7, p8⟩ := h.pend f o hp ho
        obtain ⟨y, s', t', f1, f2, f3, f4, f5⟩ := free_spec hfree
        rw [ho] at f1; cases f1
        rw [p1] at f2; cases f2
        rw [p2] at f3; cases f3
        obtain ⟨a1, ⟨_, a2, a3⟩, a4⟩ := hst f o ho
        simp only [GuardOn, f4] at a2
        rw [a2, if_pos rfl, a1] at a3
        unfold opE at a3
        simp only [p1] at a3
        obtain ⟨ty', b1, b2⟩ := opt_some a3
        rw [p3] at b1; cases b1
        have e1 : (rc f).v = some (.ref (st f).heap.length 0) := ((Prod.mk.inj (Option.some.inj b2)).1).symm
        have e2 : (rc f).H = (st f).heap ++ [some (.box ty.zero)] := ((Prod.mk.inj (Option.some.inj b2)).2).symm
        have hnx : (st (f + 1)).heap = (st f).heap ++ [some (.box ty.zero)] := by rw [a4]; exact e2
        have hgb : Gp.g (blk f) := (h.gp _).2 (.inr ⟨f, hp, rfl⟩)
        obtain ⟨hR', hT'⟩ := @late_hr Gp ⟨fun b => G.g b ∨ ∃ k, Pend c ops listed (f + 1) k ∧ b = blk k⟩ β (st f).heap w.heap ty.zero (blk f) vs e h.hr hgb
          (fun x hx => (h.gp x).2 (hx.imp id fun ⟨k, hk, e⟩ => ⟨k, (hup hk).1, e⟩))
          (fun hx => by
            rcases hx with hx | ⟨k, hk, e⟩
            · exact h.new f hp hx
            · exact (hup hk).2 (h.dif f k hp (hup hk).1 e).symm)
          p5 p6 p7 (fun j hj => p8 _ _ _ j hj)
        rw [← hnx] at hR' hT'
        refine ih (f := f + 1) (by omega) ⟨hfl, fun k x hx hcx hk => ?_, hR', h.turn.trans hT', h.grow, h.gh, fun b => Iff.rfl, fun k k' hk hk' => h.dif k k' (hup hk).1 (hup hk').1, fun k hk => h.new k (hup hk).1, fun k x hk hx => h.pend k x (hup hk).1 hx, fun t i hi hcov hnp av hav => ?_⟩
        · rcases Nat.lt_or_ge k f with h' | h'
          · exact h.past k x hx hcx h'
          · have : k = f := by omega
            subst this; exact hon
        · by_cases ht : t = d'
          · subst ht
            have hfi : f < i := (hcov f o ho p2).1 hon
            have hs := st_env hst (t := t) (i := f + 1) (i - (f + 1)) (by omega) fun k x h1 h2 hx => (f5 k x (by omega) hx).1
            rw [show f + 1 + (i - (f + 1)) = i by omega] at hs
            rw [hs, a4] at hav
            simp only [p2] at hav
            have hl : t < (st f).env.length := by
              refine Nat.lt_of_not_le fun hle => ?_
              rw [List.getD_eq_getElem?_getD, List.getElem?_eq_none (by rw [putE_length]; exact hle)] at hav
              cases hav
            rw [putE_eq hl, e1] at hav
            cases hav
            rw [st_len hst f (by omega)] at hl
            refine ⟨_, p4 (Nat.lt_of_lt_of_le hl hlen), ?_⟩
            have hat : (st (f + 1)).heap.at (st f).heap.length = some (.box ty.zero) := by rw [hnx]; exact at_new
            have := @R.ref ⟨fun b => G.g b ∨ ∃ k, Pend c ops listed (f + 1) k ∧ b = blk k⟩ (nb β (st f).heap.length (blk f)) (st (f + 1)).heap w.heap (st f).heap.length 0 ty.zero hat
            rw [nb_eq rfl] at this
            exact this
          · obtain ⟨v, hv, hr⟩ := h.env t i hi hcov (fun k x hk hx => by
              by_cases hkf : k = f
              · subst hkf
                rw [ho] at hx; cases hx
                rw [p2]; intro h'; cases h'; exact ht rfl
              · exact hnp k x (hdn hk hkf) hx) av hav
            exact ⟨v, hv, R.turn hT' hr⟩
      · exact ⟨f, Gp, β, blk, h, .inr ⟨o, ho, hc, hon⟩⟩
    · have hh := st_heap1 hq hL hst ho hc
      have hpe : ∀ k, Pend c ops listed (f + 1) k ↔ Pend c ops listed f k := fun k => by
        refine ⟨fun hk => ⟨by have := hk.1; omega, hk.2⟩, fun hk => ⟨?_, hk.2⟩⟩
        have h1 := hk.1
        rcases Nat.lt_or_ge f k with h' | h'
        · exact h'
        · have : k = f := by omega
          subst this
          obtain ⟨_, x, hx, hcx⟩ := hk.2
          rw [ho] at hx; cases hx; exact absurd hcx hc
      refine ih (f := f + 1) (Gp := Gp) (β := β) (by omega) ⟨hfl, fun k x hx hcx hk => ?_, by rw [hh]; exact h.hr, by rw [hh]; exact h.turn, h.grow, h.gh, fun b => ?_, fun k k' hk hk' => h.dif k k' ((hpe k).1 hk) ((hpe k').1 hk'), fun k hk => h.new k ((hpe k).1 hk), fun k x hk hx => h.pend k x ((hpe k).1 hk) hx, fun t i hi hcov hnp av hav => ?_⟩
      · rcases Nat.lt_or_ge k f with h' | h'
        · exact h.past k x hx hcx h'
        · have : k = f := by omega
          subst this
          rw [ho] at hx; cases hx; exact absurd hcx hc
      · rw [h.gp b]
        exact or_congr Iff.rfl (exists_congr fun k => and_congr (hpe k).symm Iff.rfl)
      · rw [hh]
        exact h.env t i hi hcov (fun k x hk hx => hnp k x ((hpe k).2 hk) hx) av hav

theorem on_set {listed : Array Bool} {j k : Nat} (hj : j < listed.size) : On (listed.setIfInBounds j true) k ↔ k = j ∨ On listed k := by
  unfold On
  by_cases h : k = j
  · subst h; simp [hj]
  · rw [getD_set_ne false (Ne.symm h)]; simp [h]

/-- an operation runs as_ told -/
theorem see_run (hC : CtxOK c P) (hM : CmpAll c P) (hg : Call1OK P g) (hst : States c g ops st rc) {j : Nat} {o : Oper} (ho : ops[j]? = some o) {a : Act} {w : World} {K : Act → World → Prop} {β : Nat → Nat} {Hc H2 : Heap} {v2 : Option AV}
    (hlen : (st 0).env.length ≤ a.tmps.size) (hR : HR β Hc w.heap) (hsee : ∀ t, t ∈ o.looksAt ops → ∀ av, (st j).env.getD t none = some av → ∃ v, a.tmps[t]? = some v ∧ R β Hc w.heap v av)
    (hon : (rc j).ex = true → opE c g.on o (rc j).kn (st j).env Hc (fun v H => some (v, H)) = some (v2, H2)) (hoff : (rc j).ex = false → v2 = none ∧ H2 = Hc)
    (hK : ∀ cv β' w', VR β' H2 w'.heap cv v2 → HR β' H2 w'.heap → Evo β Hc w.heap β' H2 w'.heap → Same w w' → K (a.put o.dst cv) w') : wpOp P ops Q j K a w := by
  have hjn : j < ops.size := (Array.getElem?_eq_some_iff.1 ho).1
  obtain ⟨hrs, ⟨hKn, hG, _⟩, hnext⟩ := hst j o ho
  rw [hrs] at hKn hG
  have hwant : Region.wanted o (yielded ops a.tmps) = (rc j).ex := wanted_on hG fun j' want t hgd ht av hav => hsee t (by simp [Oper.looksAt, hgd, ht]) av hav
  unfold wpOp
  simp only [ho, hwant]
  cases hex : (rc j).ex with
  | false =>
    simp only [Bool.false_eq_true, if_false]
    obtain ⟨e1, e2⟩ := hoff hex
    subst e1 e2
    exact hK undef β w rfl hR (Evo.refl _ _ _) (Same.refl _)
  | true =>
    simp only [if_true]
    refine .inl ?_
    have hlk : ∀ y ∈ o.op.operands, ∀ t, y = .tmp t → inList t (o.looksAt ops) = true := by
      rintro y hy t rfl
      rw [inList_iff]
      exact List.mem_append_left _ (List.mem_filterMap.2 ⟨.tmp t, by simpa using hy, rfl⟩)
    have hal : ∀ y ∈ o.op.operands, Alike (st j).env (keep (o.looksAt ops) 0 (st j).env) (rc j).kn ((rc j).kn.filter fun q => inList q.1 (o.looksAt ops)) y := by
      intro y hy t ht
      have := hlk y hy t ht
      rw [keep_getD, find1_key (p := fun u => inList u (o.looksAt ops)), Nat.zero_add, if_pos this, if_pos this]
      exact ⟨rfl, rfl⟩
    have hER : ER β Hc w.heap a.tmps (keep (o.looksAt ops) 0 (st j).env) := by
      refine ⟨by rw [keep_length, st_len hst j (by omega)]; exact hlen, fun t av hav => ?_⟩
      rw [keep_getD, Nat.zero_add] at hav
      split at hav
      · rename_i hin; exact hsee t (inList_iff.1 hin) av hav
      · cases hav
    have hKE : KnEnv ((rc j).kn.filter fun q => inList q.1 (o.looksAt ops)) (keep (o.looksAt ops) 0 (st j).env) := by
      intro t b ht
      rw [find1_key (p := fun u => inList u (o.looksAt ops))] at ht
      split at ht
      · rename_i hin; rw [keep_getD, Nat.zero_add, if_pos hin]; exact hKn t b ht
      · cases ht
    have hx2 := hon hex
    rw [opE_congr hal] at hx2
    refine opE_ok hC hM hg.on hR hER (hKE.ok hER) hx2 _ ?_
    intro cv ov β' H' w' hk hv hR' hE' hS
    cases hk
    exact hK cv β' w' hv hR' hE' hS

theorem drawn_step {G : Gh} (hC : CtxOK c P) (hM : CmpAll c P) (hg : Call1OK P g) (hq : g.Quiet c) (hmo : g.Mono c) (hsy : g.Stay) (hreg : regOk c ops = true) (hroots : rootsB c ops (st 0).env = true) (hL : LeafH (st 0).heap) (hst : States c g ops st rc) {a0 : Act} {β0 : Nat → Nat} {H0 : Heap} {w0 : World} (h00 : ∀ q r off, (st 0).env.getD q none = some (.ref r off) → ∃ cs, H0.at r = some (.box cs)) {listed : Array Bool} {a : Act} {w : World}
    (hI : Inv c ops st G a0 β0 H0 w0 listed a w) {j : Nat} (hj : j ∈ Region.ready .any ops listed) {K : Act → World → Prop}
    (hK : ∀ a' w', Inv c ops st G a0 β0 H0 w0 (listed.setIfInBounds j true) a' w' → K a' w') : wpOp P ops Q j K a w := by
  obtain ⟨hun, o, ho, hp⟩ := mem_ready.1 hj
  obtain ⟨hsz, hcl, hlen, hdef, hsame, f, Gp, β, blk, hm, hnorm⟩ := hI
  have hjn : j < ops.size := (Array.getElem?_eq_some_iff.1 ho).1
  have hjl : j < listed.size := by omega
  have hnot : ¬ On listed j := by
    intro h
    unfold On at h
    simp [hjl] at hun h
    rw [hun] at h; cases h
  obtain ⟨hns, hreg⟩ := regOk_spec hreg hroots
  have hb : ∀ k x, ops[k]? = some x → k < j → On listed k ∨ Apart c ops (st 0).env x o k j := fun k x hx hk =>
    ((hreg j o ho).2 k x hk hx).imp (before_on hcl j o ho hp k) id
  have ha : ∀ k x, ops[k]? = some x → j < k → ¬ On listed k ∨ Apart c ops (st 0).env o x j k := fun k x hx hk =>
    ((hreg k x hx).2 j o hk ho).imp (fun hbit hon => hnot (before_on hcl k x hx (fun e he hb => hcl k x hx hon e he hb) j hbit)) id
  have c2 : ∀ {x : Oper}, clsR c ops x = 2 → cls c x = 2 := fun {x} h => by have := clsR_le c ops x; have := cls_le c x; omega
  have wl1 : ∀ {x : Oper} {q : Nat}, wlOf ops x = some q → cls c x = 1 := by
    intro x q h
    unfold wlOf at h
    unfold cls
    split at h
    · rename_i ho; simp [ho]
    · cases h
  have sum : ∀ {x y : Oper} {l m : Nat}, Apart c ops (st 0).env x y l m → clsR c ops x = 2 → clsR c ops y = 2 → freeB c ops m = true := by
    intro x y l m h hx hy
    have h1 := c2 hx
    have h2 := c2 hy
    rcases h.rel with h | ⟨h, _⟩ | ⟨_, q, h, _⟩ | ⟨_, q, h, _⟩ | h | ⟨h, _⟩
    · omega
    · omega
    · have := wl1 h; omega
    · have := wl1 h; omega
    · exact h
    · omega
  have hcle := clsR_le c ops o
  have hst1 := fun h => st_heap1 hq hL hst ho h
  have covj : ∀ t, t ∈ o.looksAt ops → Cov ops listed t j := by
    intro t ht k x hx hd
    rcases Nat.lt_trichotomy k j with hk | hk | hk
    · refine ⟨fun _ => hk, fun _ => (hb k x hx hk).resolve_right fun hi => ?_⟩
      exact (Oper.apart_spec hi.apart).1 t hd ht
    · subst hk; exact ⟨fun h => absurd h hnot, fun h => absurd h (Nat.lt_irrefl _)⟩
    · refine ⟨fun h => ?_, fun h => by omega⟩
      rcases ha k x hx hk with h' | h'
      · exact absurd h h'
      · exact absurd ht ((Oper.apart_spec h'.apart).2.2 t hd)
  -- the front
  have hfr : ∀ {k}, k < ops.size → f ≤ k → ∃ x, ops[f]? = some x ∧ clsR c ops x = 2 ∧ ¬ On listed f := fun {k} h1 h2 => by
    rcases hnorm with h | h
    · omega
    · exact h
  have pne : ∀ {k}, Pend c ops listed f k → k ≠ j ∧ f < k := by
    intro k hk
    refine ⟨fun h => hnot (h ▸ hk.2.1), ?_⟩
    obtain ⟨_, x, hx, _⟩ := hk.2
    obtain ⟨_, _, _, hn⟩ := hfr (Array.getElem?_eq_some_iff.1 hx).1 hk.1
    refine Nat.lt_of_le_of_ne hk.1 fun h => hn (h ▸ hk.2.1)
  -- none looks at what was made early
  have hnl : ∀ t, t ∈ o.looksAt ops → ∀ k x, Pend c ops listed f k → ops[k]? = some x → x.dst ≠ some t := by
    intro t ht k x hk hx hd
    obtain ⟨hfree, _⟩ := hm.pend k x hk hx
    obtain ⟨y, s, t', f1, f2, f3, f4, f5⟩ := free_spec hfree
    rw [hx] at f1; cases f1
    rw [hd] at f3; cases f3
    obtain ⟨z, hz, hcz, hn⟩ := hfr (Array.getElem?_eq_some_iff.1 hx).1 hk.1
    have := (f5 j o (Ne.symm (pne hk).1) ho).2 ht f z (pne hk).2 hz (c2 hcz)
    exact hn (before_on hcl j o ho hp f this)
  have hsee : ∀ t, t ∈ o.looksAt ops → ∀ av, (st j).env.getD t none = some av → ∃ v, a.tmps[t]? = some v ∧ @R Gp β (st f).heap w.heap v av := fun t ht av hav => hm.env t j (by omega) (covj t ht) (hnl t ht) av hav
  have hdn : ∀ k x, Pend c ops listed f k → ops[k]? = some x → ∀ d, x.dst = some d → o.dst ≠ some d := by
    intro k x hk hx d hd
    obtain ⟨hfree, _⟩ := hm.pend k x hk hx
    obtain ⟨y, s, t', f1, f2, f3, f4, f5⟩ := free_spec hfree
    rw [hx] at f1; cases f1
    rw [hd] at f3; cases f3
    exact (f5 j o (Ne.symm (pne hk).1) ho).1
  have hcl' : Closed ops (listed.setIfInBounds j true) := by
    intro k x hxk hk e he hbe
    rw [on_set hjl] at hk ⊢
    rcases hk with rfl | hk
    · rw [ho] at hxk; cases hxk; exact .inr (hp e he hbe)
    · exact .inr (hcl k x hxk hk e he hbe)
  have covb : ∀ {t i}, o.dst ≠ some t → Cov ops (listed.setIfInBounds j true) t i → Cov ops listed t i := by
    intro t i hd hcov k x hxk hdx
    rw [← hcov k x hxk hdx, on_set hjl]
    refine ⟨.inr, fun h => h.resolve_left ?_⟩
    rintro rfl
    rw [ho] at hxk; cases hxk; exact hd hdx
  obtain ⟨hrs, ⟨hKn, hG, hx⟩, hnext⟩ := hst j o ho
  rw [hrs] at hx
  by_cases hearly : clsR c ops o = 2 ∧ j ≠ f
  · -- made early
    obtain ⟨hc, hjf⟩ := hearly
    have hfj : f < j := by
      rcases Nat.lt_trichotomy f j with h | h | h
      · exact h
      · exact absurd h.symm hjf
      · exact absurd (hm.past j o ho hc h) hnot
    obtain ⟨z, hz, hcz, hnf⟩ := hfr hjn (by omega)
    have hfree := sum ((hb f z hz hfj).resolve_left hnf) hcz hc
    obtain ⟨y, s, t, f1, f2, f3, f4, f5⟩ := free_spec hfree
    rw [ho] at f1; cases f1
    simp only [GuardOn, f4] at hG
    rw [hG, if_pos rfl] at hx
    unfold opE at hx
    simp only [f2] at hx
    obtain ⟨ty, hty, _⟩ := opt_some hx
    have hT := hC.ty s ty hty
    obtain ⟨i, hi, hsz', hby, z', hz', hzs, hzR⟩ := hT.info
    have hrun : (execOp a.eval o).run P w = .ok (.value (.pointer (some ⟨w.heap.size, 0, none⟩))) { w with heap := w.heap.push (.cells z'.cells s (0, 0)) } := by
      unfold execOp
      rw [f2]
      simp [Instr.alloc, zeroValue, typeInfo, hi, hz', newVar, newRow]
    have hwant : Region.wanted o (yielded ops a.tmps) = true := by unfold Region.wanted; rw [f4]
    unfold wpOp
    simp only [ho, hwant, if_true]
    refine .inl ?_
    unfold Oper.wp
    rw [hrun]
    obtain ⟨hR', hT'⟩ := @push_hr Gp β (st f).heap w.heap (.cells z'.cells s (0, 0)) hm.hr
    have hpe : ∀ k, Pend c ops (listed.setIfInBounds j true) f k ↔ k = j ∨ Pend c ops listed f k := by
      intro k
      unfold Pend
      rw [on_set hjl]
      refine ⟨fun ⟨h1, h2, h3⟩ => h2.imp id fun h => ⟨h1, h, h3⟩, fun h => ?_⟩
      rcases h with rfl | ⟨h1, h2, h3⟩
      · exact ⟨by omega, .inl rfl, o, ho, hc⟩
      · exact ⟨h1, .inr h2, h3⟩
    have hlt : ∀ {k}, Pend c ops listed f k → blk k < w.heap.size := fun {k} hk => (@HR.gh Gp _ _ _ hm.hr (blk k) ((hm.gp _).2 (.inr ⟨k, hk, rfl⟩))).1
    have hGlt : ∀ {b}, G.g b → b < w.heap.size := fun {b} hb => (@HR.gh Gp _ _ _ hm.hr b ((hm.gp _).2 (.inl hb))).1
    have hsm : ∀ {b}, b < w.heap.size → (w.heap.push (.cells z'.cells s (0, 0)))[b]? = w.heap[b]? := fun {b} hb => by rw [Array.getElem?_push, if_neg (by omega)]
    have hbj : nb blk j w.heap.size j = w.heap.size := nb_eq rfl
    have hbk : ∀ {k}, Pend c ops listed f k → nb blk j w.heap.size k = blk k := fun {k} hk => nb_ne (pne hk).1
    have hput : ∀ t', o.dst ≠ some t' → (a.put o.dst (.pointer (some ⟨w.heap.size, 0, none⟩))).tmps[t']? = a.tmps[t']? := fun t' h => put_get (by rintro d hd rfl; exact h hd)
    refine hK _ _ ⟨by simpa using hsz, hcl', by rw [put_size]; exact hlen, by rw [put_defers]; exact hdef, hsame.trans ⟨rfl, rfl, rfl⟩, f, _, β, nb blk j w.heap.size, ⟨hm.le, fun k x hx hcx hk => (on_set hjl).2 (.inr (hm.past k x hx hcx hk)), hR', hm.turn.trans hT', by rw [Array.size_push]; have := hm.grow; omega, fun b hb hl => (hsm (by have := hm.grow; omega)).trans (hm.gh b hb hl), fun b => ?_, fun k k' hk hk' he => ?_, fun k hk hg => ?_, fun k x hk hkx => ?_, fun t' i' hi' hcov hnp av hav => ?_⟩, .inr ⟨z, hz, hcz, ?_⟩⟩
    · show Gp.g b ∨ b = w.heap.size ↔ _
      rw [hm.gp b]
      constructor
      · rintro ((h | ⟨k, hk, rfl⟩) | rfl)
        · exact .inl h
        · exact .inr ⟨k, (hpe k).2 (.inr hk), (hbk hk).symm⟩
        · exact .inr ⟨j, (hpe j).2 (.inl rfl), hbj.symm⟩
      · rintro (h | ⟨k, hk, rfl⟩)
        · exact .inl (.inl h)
        · rcases (hpe k).1 hk with rfl | hk
          · exact .inr hbj
          · exact .inl (.inr ⟨k, hk, hbk hk⟩)
    · rcases (hpe k).1 hk with rfl | h1 <;> rcases (hpe k').1 hk' with rfl | h2
      · rfl
      · rw [hbj, hbk h2] at he
        have := hlt h2; omega
      · rw [hbj, hbk h1] at he
        have := hlt h1; omega
      · rw [hbk h1, hbk h2] at he
        exact hm.dif k k' h1 h2 he
    · rcases (hpe k).1 hk with rfl | h1
      · rw [hbj] at hg
        have := hGlt hg; omega
      · rw [hbk h1] at hg
        exact hm.new k h1 hg
    · rcases (hpe k).1 hk with rfl | h1
      · rw [ho] at hkx; cases hkx
        refine ⟨hfree, s, t, ty, z'.cells, s, f2, f3, hty, fun hl => ?_, ?_, by rw [hzs, hT.len], hT.leaf, hzR⟩
        · rw [put_size] at hl
          rw [f3, hbj]; exact put_get_eq hl
        · rw [hbj]; simp
      · obtain ⟨q0, t1, d1, ty1, vs1, e1, q1, q2, q3, q4, q5, q6, q7, q8⟩ := hm.pend k x h1 hkx
        refine ⟨q0, t1, d1, ty1, vs1, e1, q1, q2, q3, fun hl => ?_, ?_, q6, q7, q8⟩
        · rw [put_size] at hl
          rw [hbk h1, hput d1 (hdn k x h1 hkx d1 q2)]
          exact q4 hl
        · rw [hbk h1]
          exact (hsm (hlt h1)).trans q5
    · have hd : o.dst ≠ some t' := hnp j o ((hpe j).2 (.inl rfl)) ho
      obtain ⟨v, hv1, hv2⟩ := hm.env t' i' hi' (covb hd hcov) (fun k x hk hx => hnp k x ((hpe k).2 (.inr hk)) hx) av hav
      exact ⟨v, by rw [hput t' hd]; exact hv1, R.turn hT' hv2⟩
    · rw [on_set hjl]
      rintro (h | h)
      · omega
      · exact hnf h
  · -- in its place
    have hjf : clsR c ops o = 2 → j = f := fun h => Classical.byContradiction fun hn => hearly ⟨h, hn⟩
    have hopE : ∃ H2, ((rc j).ex = true → opE c g.on o (rc j).kn (st j).env (st f).heap (fun v H => some (v, H)) = some ((rc j).v, H2)) ∧ ((rc j).ex = false → (rc j).v = none ∧ H2 = (st f).heap) ∧ (clsR c ops o ≠ 2 → H2 = (st f).heap) ∧ (clsR c ops o = 2 → H2 = (st (j + 1)).heap) := by
      cases hex : (rc j).ex with
      | false =>
        rw [hex] at hx
        refine ⟨(st f).heap, (fun h => by cases h), fun _ => ⟨hx.1, rfl⟩, fun _ => rfl, fun h => ?_⟩
        rw [hnext]
        simp only
        rw [hx.2, hjf h]
      | true =>
      rw [hex, if_pos rfl] at hx
      suffices h : ∃ H2, opE c g.on o (rc j).kn (st j).env (st f).heap (fun v H => some (v, H)) = some ((rc j).v, H2) ∧ (clsR c ops o ≠ 2 → H2 = (st f).heap) ∧ (clsR c ops o = 2 → H2 = (st (j + 1)).heap) by
        obtain ⟨H2, q1, q2, q3⟩ := h
        exact ⟨H2, fun _ => q1, (fun h => by cases h), q2, q3⟩
      by_cases h0 : clsR c ops o = 0
      · exact ⟨_, (opE_zero (clsR_zero h0) hx).1, fun _ => rfl, fun h => by omega⟩
      have exact_ : (st f).heap = (st j).heap → ∃ H2, opE c g.on o (rc j).kn (st j).env (st f).heap (fun v H => some (v, H)) = some ((rc j).v, H2) ∧ (clsR c ops o ≠ 2 → H2 = (st f).heap) ∧ (clsR c ops o = 2 → H2 = (st (j + 1)).heap) := by
        intro hHj
        rw [← hHj] at hx
        refine ⟨(rc j).H, hx, fun h2 => ?_, fun _ => by rw [hnext]⟩
        have := hst1 h2
        rw [hnext] at this
        rw [hHj]
        exact this
      by_cases h2 : clsR c ops o = 2
      · exact exact_ (by rw [hjf h2])
      by_cases hw : wbReg c ops = true
      · have hwr : ∀ {x : Oper}, clsR c ops x ≠ 2 := fun {x} hd => by
          unfold clsR at hd
          rw [if_pos hw] at hd
          omega
        rcases Nat.le_total f j with h | h
        · have := st_heap hq hL hst (i := f) (j - f) (by omega) fun k x _ _ _ => hwr
          rw [show f + (j - f) = j by omega] at this
          exact exact_ this.symm
        · have := st_heap hq hL hst (i := j) (f - j) (by have := hm.le; omega) fun k x _ _ _ => hwr
          rw [show j + (f - j) = f by omega] at this
          exact exact_ this
      have hc1 : cls c o = 1 := by
        have := cls_le c o
        have e : clsR c ops o = cls c o := by unfold clsR; rw [if_neg hw]
        omega
      have hnn : newB c o ≠ true := fun h => by have := new_cls h; omega
      have hfle := hm.le
      -- what stands between the front and the operation
      have later : ∀ k x, ops[k]? = some x → clsR c ops x = 2 → j < k → k < f → (allocB x = true ∨ ownS ops j k = true) ∨ (newB c x = true ∧ ∃ q, wlOf ops o = some q ∧ refAt (st 0).env q = true) := by
        intro k x hxk hd h1 h2
        have hon := hm.past k x hxk hd h2
        have h := ((ha k x hxk h1).resolve_left fun h => h hon).rel
        rcases h with h | ⟨_, h⟩ | h | ⟨h, _⟩ | h | ⟨_, h⟩
        · omega
        · exact .inl (.inl h)
        · exact .inr h
        · exact absurd h hnn
        · exact .inl (.inl (free_alloc h hxk))
        · exact .inl (.inr h)
      have sooner1 : ∀ k x, ops[k]? = some x → clsR c ops x = 2 → k < j → ¬ On listed k → newB c x = true ∧ ∃ q, wlOf ops o = some q ∧ refAt (st 0).env q = true := by
        intro k x hxk hd h1 hoff
        have h := ((hb k x hxk h1).resolve_left hoff).rel
        rcases h with h | ⟨h, _⟩ | ⟨h, _⟩ | h | h | ⟨h, _⟩
        · omega
        · have := c2 hd; omega
        · exact absurd h hnn
        · exact h
        · exact absurd (alloc_new (free_alloc h ho)) hnn
        · have := c2 hd; omega
      have sooner : ∀ k x, ops[k]? = some x → clsR c ops x = 2 → k < j → f ≤ k → newB c x = true ∧ ∃ q, wlOf ops o = some q ∧ refAt (st 0).env q = true := by
        intro k x hxk hd h1 h2
        by_cases hon : On listed k
        · obtain ⟨z, hz, hcz, hnf⟩ := hfr (Array.getElem?_eq_some_iff.1 hxk).1 h2
          obtain ⟨hfree, _⟩ := hm.pend k x ⟨h2, hon, x, hxk, hd⟩ hxk
          exact ⟨alloc_new (free_alloc hfree hxk), (sooner1 f z hz hcz (by omega) hnf).2⟩
        · exact sooner1 k x hxk hd h1 hon
      by_cases hwl : ∃ q, wlOf ops o = some q ∧ refAt (st 0).env q = true
      · obtain ⟨q, hwq, hrq⟩ := hwl
        unfold wlOf at hwq
        split at hwq
        · rename_i t p hop
          unfold refAt at hrq
          split at hrq
          · rename_i r off heq
            unfold opE at hx ⊢
            simp only [hop] at hx ⊢
            obtain ⟨pv, e1, x1⟩ := opt_some hx
            obtain ⟨ty, e2, x2⟩ := opt_some x1
            rw [loadE_eq] at x2
            obtain ⟨v, e3, x3⟩ := opt_some x2
            have hv := (Prod.mk.inj (Option.some.inj x3)).1
            rcases root_ref hst ho (hreg j o ho).1 hwq heq (av := pv) e1 with ⟨off', rfl⟩ | rfl
            · unfold loadAV at e3
              simp only at e3
              split at e3
              · rename_i cs hcs
                have hrl := atl_some hcs
                obtain ⟨cs0, hcs0⟩ := h00 q r off heq
                obtain ⟨_, cs1, hcs1⟩ := hm.turn.box r cs0 hcs0
                have hrl1 := atl_some hcs1
                have hcH : (st f).heap.at r = some (.box cs) := by
                  rcases Nat.lt_or_ge j f with hij | hij
                  · have hs := st_box hq hsy hL hst (i := j) (f - j) (by omega) fun k x h1 h3 hxk hd => by
                      rcases Nat.lt_or_ge j k with h' | h'
                      · rcases later k x hxk hd h' (by omega) with (h | h) | h
                        · exact .inl (alloc_new h)
                        · exact .inr h
                        · exact .inl h.1
                      · have : k = j := by omega
                        subst this
                        rw [ho] at hxk; cases hxk; exact absurd hd h2
                    rw [show j + (f - j) = f by omega] at hs
                    exact (hs.2 r hrl cs).1 hcs
                  · have hs := st_box hq hsy hL hst (i := f) (j - f) (by omega) fun k x h1 h2 hxk hd => .inl (sooner k x hxk hd (by omega) h1).1
                    rw [show f + (j - f) = j by omega] at hs
                    exact (hs.2 r hrl1 cs).2 hcs
                refine ⟨_, ?_, fun _ => rfl, fun h => absurd h h2⟩
                rw [e1, opt_val, e2, opt_val, loadE_eq]
                unfold loadAV
                simp only [hcH]
                rw [e3, opt_val, hv]
              · cases e3
            · cases e3
          · cases hrq
        · cases hwq
      · have none2 : ∀ k x, ops[k]? = some x → k < j → f ≤ k → clsR c ops x ≠ 2 := fun k x hxk h1 h2 hd => hwl (sooner k x hxk hd h1 h2).2
        rcases Nat.lt_or_ge j f with hij | hij
        · obtain ⟨X, hX⟩ := st_more hq hL hst (i := j) (f - j) (by omega) fun k x h1 h3 hxk hd => by
            rcases Nat.lt_or_ge j k with h' | h'
            · exact (later k x hxk hd h' (by omega)).resolve_right fun h => hwl h.2
            · have : k = j := by omega
              subst this
              rw [ho] at hxk; cases hxk; exact absurd hd h2
          rw [show j + (f - j) = f by omega] at hX
          refine ⟨_, ?_, fun _ => rfl, fun h => absurd h h2⟩
          rw [hX]
          exact opE_mono hq hmo hc1 hx
        · have := st_heap hq hL hst (i := f) (j - f) (by omega) fun k x h1 h2 hxk => none2 k x hxk (by omega) h1
          rw [show f + (j - f) = j by omega] at this
          exact exact_ this.symm
    obtain ⟨H2, hon, hoff, q1, q2⟩ := hopE
    refine @see_run Gp P c g ops Q st rc hC hM hg hst j o ho a w K β (st f).heap H2 (rc j).v hlen hm.hr hsee hon hoff ?_
    intro cv β' w' hv hR' hE' hS
    have hTE := @Evo.turn Gp _ _ _ _ _ _ hE'
    obtain ⟨f2, hf2, hH2, hpast, hpe⟩ : ∃ f2, f2 ≤ ops.size ∧ H2 = (st f2).heap ∧ (∀ k x, ops[k]? = some x → clsR c ops x = 2 → k < f2 → On (listed.setIfInBounds j true) k) ∧ ∀ k, Pend c ops (listed.setIfInBounds j true) f2 k ↔ Pend c ops listed f k := by
      by_cases hc : clsR c ops o = 2
      · have e := hjf hc
        refine ⟨j + 1, hjn, q2 hc, fun k x hx hcx hk => ?_, fun k => ?_⟩
        · rw [on_set hjl]
          rcases Nat.lt_or_ge k j with h | h
          · exact .inr (hm.past k x hx hcx (by omega))
          · exact .inl (by omega)
        · unfold Pend
          rw [on_set hjl]
          refine ⟨fun ⟨h1, h2, h3⟩ => ⟨by omega, h2.resolve_left (by omega), h3⟩, fun h => ⟨?_, .inr h.2.1, h.2.2⟩⟩
          have := (pne h).2; omega
      · refine ⟨f, hm.le, q1 hc, fun k x hx hcx hk => (on_set hjl).2 (.inr (hm.past k x hx hcx hk)), fun k => ?_⟩
        unfold Pend
        rw [on_set hjl]
        refine ⟨fun ⟨h1, h2, h3⟩ => ⟨h1, h2.resolve_left ?_, h3⟩, fun ⟨h1, h2, h3⟩ => ⟨h1, .inr h2, h3⟩⟩
        rintro rfl
        obtain ⟨x, hx, hcx⟩ := h3
        rw [ho] at hx; cases hx; exact hc hcx
    subst hH2
    have hlen' : (st 0).env.length ≤ (a.put o.dst cv).tmps.size := by rw [put_size]; exact hlen
    have hput : ∀ t', o.dst ≠ some t' → (a.put o.dst cv).tmps[t']? = a.tmps[t']? := fun t' h => put_get (by rintro d hd rfl; exact h hd)
    have hlt : ∀ {b}, Gp.g b → b < w.heap.size := fun {b} hb => (@HR.gh Gp _ _ _ hm.hr b hb).1
    have hmid : Mid c ops st G β0 H0 w0 (listed.setIfInBounds j true) (a.put o.dst cv) w' f2 Gp β' blk := by
      refine ⟨hf2, hpast, hR', hm.turn.trans hTE, Nat.le_trans hm.grow (@Evo.size Gp _ _ _ _ _ _ hE'), fun b hb hl => (@Evo.gh Gp _ _ _ _ _ _ hE' b ((hm.gp b).2 (.inl hb)) (by have := hm.grow; omega)).trans (hm.gh b hb hl),
        fun b => (hm.gp b).trans (or_congr Iff.rfl (exists_congr fun k => and_congr (hpe k).symm Iff.rfl)), fun k k' hk hk' => hm.dif k k' ((hpe k).1 hk) ((hpe k').1 hk'), fun k hk => hm.new k ((hpe k).1 hk), fun k x hk hx => ?_, fun t i hi hcov hnp av hav => ?_⟩
      · have hk := (hpe k).1 hk
        obtain ⟨p0, t1, d1, ty1, vs1, e1, p1, p2, p3, p4, p5, p6⟩ := hm.pend k x hk hx
        refine ⟨p0, t1, d1, ty1, vs1, e1, p1, p2, p3, fun hl => ?_, ?_, p6⟩
        · rw [put_size] at hl
          rw [hput d1 (hdn k x hk hx d1 p2)]
          exact p4 hl
        · have hgb : Gp.g (blk k) := (hm.gp _).2 (.inr ⟨k, hk, rfl⟩)
          exact (@Evo.gh Gp _ _ _ _ _ _ hE' _ hgb (hlt hgb)).trans p5
      · by_cases hd : o.dst = some t
        · have hji : j < i := (hcov j o ho hd).1 ((on_set hjl).2 (.inl rfl))
          have hsame : (st i).env.getD t none = (st (j + 1)).env.getD t none := by
            have := st_env hst (t := t) (i := j + 1) (i - (j + 1)) (by omega) (fun k x h1 h2 hx hdx => by
              have hon := (on_set hjl).1 ((hcov k x hx hdx).2 (by omega))
              rcases hon with h | h
              · omega
              · rcases ha k x hx (by omega) with h' | h'
                · exact h' h
                · exact (Oper.apart_spec h'.apart).2.1 t hd hdx)
            rwa [show j + 1 + (i - (j + 1)) = i by omega] at this
          rw [hsame, hnext] at hav
          simp only at hav
          rw [hd] at hav ⊢
          by_cases hl : t < (st j).env.length
          · rw [putE_eq hl] at hav
            cases hav
            rw [st_len hst j (by omega)] at hl
            exact ⟨cv, put_get_eq (Nat.lt_of_lt_of_le hl hlen), @VR.getD Gp _ _ _ _ _ hv⟩
          · rw [List.getD_eq_getElem?_getD, List.getElem?_eq_none (by rw [putE_length]; omega)] at hav
            cases hav
        · obtain ⟨v, hv1, hv2⟩ := hm.env t i hi (covb hd hcov) (fun k x hk hx => hnp k x ((hpe k).2 hk) hx) av hav
          exact ⟨v, by rw [hput t hd]; exact hv1, R.turn hTE hv2⟩
    obtain ⟨f', Gp', βn, blk', hm', hn'⟩ := settle (G := G) hq hL hst (β0 := β0) (H0 := H0) (w0 := w0) (listed := listed.setIfInBounds j true) (a := a.put o.dst cv) (w := w') hlen' (blk := blk) (ops.size - f2) (f := f2) (Gp := Gp) (β := β') (Nat.le_refl _) hmid
    exact hK _ _ ⟨by simpa using hsz, hcl', hlen', by rw [put_defers]; exact hdef, hsame.trans hS, f', Gp', βn, blk', hm', hn'⟩
/-! ### to the end -/
def left (listed : Array Bool) : Nat := listed.toList.countP (· == false)
theorem left_set {listed : Array Bool} {j : Nat} (hj : j < listed.size) (h : listed.getD j true = false) : left (listed.setIfInBounds j true) + 1 = left listed := by
  unfold left
  have : listed[j] = false := by simpa [hj] using h
  rw [Array.toList_setIfInBounds]
  obtain ⟨l⟩ := listed
  simp only at *
  clear h
  induction l generalizing j with
  | nil => simp at hj
  | cons b l ih =>
    cases j with
    | zero => simp at this; subst this; simp
    | succ j =>
      have := ih (j := j) (by simpa using hj) (by simpa using this)
      rw [List.set_cons_succ, List.countP_cons, List.countP_cons]
      omega
theorem ready_nil {listed : Array Bool} {e : List (Option AV)} (hsz : listed.size = ops.size) (hreg : regOk c ops = true) (hroots : rootsB c ops e = true) (h : Region.ready .any ops listed = []) : ∀ j, j < ops.size → On listed j := by
  obtain ⟨_, hr⟩ := regOk_spec hreg hroots
  intro j
  induction j using Nat.strongRecOn with
  | ind j ih =>
    intro hj
    apply Classical.byContradiction
    intro hn
    have hmem : j ∈ Region.ready .any ops listed := by
      rw [mem_ready]
      have ho := Array.getElem?_eq_getElem hj
      refine ⟨?_, ops[j], ho, fun e he hb => ?_⟩
      · have hjl : j < listed.size := by omega
        unfold On at hn
        simp [hjl] at hn ⊢
        exact hn
      · have hlt := (hr j _ ho).1 e he hb
        exact ih e.on hlt (by omega)
    rw [h] at hmem; cases hmem
theorem left_zero {listed : Array Bool} (h : left listed = 0) : Region.ready .any ops listed = [] := by
  rw [List.eq_nil_iff_forall_not_mem]
  intro j hj
  obtain ⟨hun, o, ho, _⟩ := mem_ready.1 hj
  unfold left at h
  rw [List.countP_eq_zero] at h
  by_cases hl : j < listed.size
  · have hh := h listed[j] (by simp)
    simp [hl] at hun
    rw [hun] at hh; simp at hh
  · simp [Array.getElem?_eq_none (Nat.le_of_not_lt hl)] at hun

theorem drawn_any {G : Gh} (hC : CtxOK c P) (hM : CmpAll c P) (hg : Call1OK P g) (hq : g.Quiet c) (hmo : g.Mono c) (hsy : g.Stay) (hreg : regOk c ops = true) (hroots : rootsB c ops (st 0).env = true) (hL : LeafH (st 0).heap) (hst : States c g ops st rc) {a0 : Act} {β0 : Nat → Nat} {H0 : Heap} {w0 : World} (h00 : ∀ q r off, (st 0).env.getD q none = some (.ref r off) → ∃ cs, H0.at r = some (.box cs))
    (hQ : ∀ a w β, @HR G β (st ops.size).heap w.heap → @ER G β (st ops.size).heap w.heap a.tmps (st ops.size).env → @Evo G β0 H0 w0.heap β (st ops.size).heap w.heap → Same w0 w → a.defers = a0.defers → Q .normal a w) :
    ∀ fuel {listed : Array Bool} {a : Act} {w : World}, left listed ≤ fuel → Inv c ops st G a0 β0 H0 w0 listed a w → wpAny P .any ops Q fuel listed a w := by
  have done : ∀ {listed : Array Bool} {a : Act} {w : World}, Inv c ops st G a0 β0 H0 w0 listed a w → Region.ready .any ops listed = [] → Q .normal a w := by
    intro listed a w hI h0
    have hall := ready_nil hI.size hreg hroots h0
    obtain ⟨f, Gp, β, blk, hm, hn⟩ := hI.mid
    have lt : ∀ {k o}, ops[k]? = some o → k < ops.size := fun hk => (Array.getElem?_eq_some_iff.1 hk).1
    have hf : f = ops.size := by
      rcases hn with h | ⟨o, ho, _, hno⟩
      · exact h
      · exact absurd (hall f (lt ho)) hno
    subst hf
    have hnp : ∀ k, ¬ Pend c ops listed ops.size k := by
      rintro k ⟨h1, _, o, ho, _⟩
      have := lt ho; omega
    have hG : Gp = G := by
      obtain ⟨gp⟩ := Gp
      obtain ⟨gg⟩ := G
      congr 1
      funext b
      refine propext ((hm.gp b).trans ⟨fun h => h.resolve_right ?_, .inl⟩)
      rintro ⟨k, hk, _⟩
      exact hnp k hk
    subst hG
    refine hQ a w β hm.hr ⟨by rw [st_len hst _ (Nat.le_refl _)]; exact hI.len, fun t av hav => ?_⟩ (@Evo.mk Gp _ _ _ _ _ _ hm.grow hm.gh hm.turn.imm hm.turn.len hm.turn.box hm.turn.arr hm.turn.fro hm.turn.dead) hI.same hI.defs
    exact hm.env t ops.size (Nat.le_refl _) (fun k o hk _ => ⟨fun _ => lt hk, fun h => hall k h⟩) (fun k o hk => absurd hk (hnp k)) av hav
  intro fuel
  induction fuel with
  | zero =>
    intro listed a w hl hI
    have h0 : Region.ready .any ops listed = [] := left_zero (by omega)
    exact ⟨h0, done hI h0⟩
  | succ fuel ih =>
    intro listed a w hl hI
    refine ⟨done hI, fun j hj => ?_⟩
    refine drawn_step hC hM hg hq hmo hsy hreg hroots hL hst h00 hI hj fun a' w' hI' => ih ?_ hI'
    obtain ⟨hun, o, ho, _⟩ := mem_ready.1 hj
    have := left_set (by rw [hI.size]; exact (Array.getElem?_eq_some_iff.1 ho).1) hun
    omega

theorem drawn_wp [G : Gh] (hC : CtxOK c P) (hM : CmpAll c P) (hg : Call1OK P g) (hq : g.Quiet c) (hmo : g.Mono c) (hsy : g.Stay) {s s' : St} (hreg : regOk c ops = true) (hroots : rootsB c ops s.env = true) (hm : P.follows .mixedOrders = true) {rs : List Rec} (h : Run c g ops.toList ops.toList s rs s') {id : Nat} {a : Act} {w : World} {β : Nat → Nat}
    (hR : HR β s.heap w.heap) (hE : ER β s.heap w.heap a.tmps s.env)
    (hQ : ∀ a' w' β', HR β' s'.heap w'.heap → ER β' s'.heap w'.heap a'.tmps s'.env → Evo β s.heap w.heap β' s'.heap w'.heap → Same w w' → a'.defers = a.defers → Q .normal a' w') : (Code.region id ops true).wp P Q a w := by
  obtain ⟨st, rc, h1, h2, h3⟩ := run_states h
  have hst : States c g ops st rc := fun k o hk => h3 k o (by simpa using hk)
  rw [Array.length_toList] at h2
  have hL : LeafH (st 0).heap := by
    rw [h1]
    refine ⟨fun r cs hr => ?_, fun r sz n row hr i hi => ?_⟩
    · obtain ⟨_, _, _, _, h, _⟩ := hR.box r cs hr; exact h
    · obtain ⟨_, _, _, _, _, _, h, _⟩ := hR.arr r sz n row hr; exact (h i hi).2.1
  have hroots0 : rootsB c ops (st 0).env = true := by rw [h1]; exact hroots
  have h00 : ∀ q r off, (st 0).env.getD q none = some (.ref r off) → ∃ cs, s.heap.at r = some (.box cs) := by
    intro q r off hq
    rw [h1] at hq
    obtain ⟨v, _, hv⟩ := hE.2 q _ hq
    cases hv with
    | ref _ _ cs hH => exact ⟨cs, hH⟩
  refine wp_region_any hm (drawn_any (G := G) (a0 := a) (β0 := β) (H0 := s.heap) (w0 := w) hC hM hg hq hmo hsy hreg hroots0 hL hst h00 ?_ _ ?_ ?_)
  · rw [h2]
    exact fun a' w' β' q1 q2 q3 q4 q5 => hQ a' w' β' q1 q2 q3 q4 q5
  · unfold left
    refine Nat.le_trans List.countP_le_length ?_
    simp
  · have hoff : ∀ k, ¬ On (Array.replicate ops.size false) k := by
      intro k h
      unfold On at h
      by_cases hk : k < ops.size <;> simp [hk] at h
    have hnp : ∀ k, ¬ Pend c ops (Array.replicate ops.size false) 0 k := fun k hk => hoff k hk.2.1
    have hlen : (st 0).env.length ≤ a.tmps.size := by rw [h1]; exact hE.1
    rw [← h1] at hR
    have hmid0 : Mid c ops st G β s.heap w (Array.replicate ops.size false) a w 0 G β (fun k => k) := by
      refine ⟨by omega, fun k o _ _ hk => absurd hk (by omega), hR, by rw [h1]; exact (Evo.refl _ _ _).turn, Nat.le_refl _, fun _ _ _ => rfl, fun b => ⟨.inl, fun h => h.resolve_right fun ⟨k, hk, _⟩ => hnp k hk⟩, fun k _ hk => absurd hk (hnp k), fun k hk => absurd hk (hnp k), fun k _ hk => absurd hk (hnp k), fun t i hi hcov _ av hav => ?_⟩
      · have := st_env hst (t := t) (i := 0) i (by omega) (fun k o _ hk ho hd => hoff k ((hcov k o ho hd).2 (by omega)))
        rw [Nat.zero_add] at this
        rw [this, h1] at hav
        rw [h1]
        exact hE.2 t av hav
    obtain ⟨f, Gp, β', blk, hmid, hn⟩ := settle (G := G) hq hL hst (β0 := β) (H0 := s.heap) (w0 := w) (listed := Array.replicate ops.size false) (a := a) (w := w) hlen (blk := fun k => k) ops.size (f := 0) (Gp := G) (β := β) (by omega) hmid0
    exact ⟨by simp, fun j o _ h => absurd h (hoff j), hlen, rfl, ⟨rfl, rfl, rfl⟩, f, Gp, β', blk, ⟨hmid.le, hmid.past, hmid.hr, hmid.turn, hmid.grow, hmid.gh, hmid.gp, hmid.dif, hmid.new, hmid.pend, hmid.env⟩, hn⟩
end
end Go.Ev

set_option linter.unusedVariables false
set_option linter.unusedSimpArgs false
set_option linter.unusedSectionVars false
namespace Go.Ev
open Go

/-! ### lists -/
theorem idxIn_some {r : Nat} : ∀ {l : List Nat} {i j : Nat}, idxIn r l i = some j → i ≤ j ∧ l[j - i]? = some r
  | [], i, j, h => by cases h
  | x :: xs, i, j, h => by
    unfold idxIn at h
    split at h
    · rename_i hx; cases h; subst hx; exact ⟨Nat.le_refl _, by simp⟩
    · obtain ⟨h1, h2⟩ := idxIn_some h
      exact ⟨by omega, by rw [show j - i = (j - (i + 1)) + 1 by omega, List.getElem?_cons_succ]; exact h2⟩
theorem idxIn_mem {r : Nat} : ∀ {l : List Nat} {i : Nat}, r ∈ l → ∃ j, idxIn r l i = some j
  | x :: xs, i, h => by
    unfold idxIn
    by_cases hx : x = r
    · rw [if_pos hx]; exact ⟨i, rfl⟩
    · rw [if_neg hx]; exact idxIn_mem (by simpa [Ne.symm hx] using h)
theorem idxIn_none {r : Nat} {l : List Nat} {i : Nat} (h : idxIn r l i = none) : r ∉ l := fun hm => by
  obtain ⟨j, hj⟩ := idxIn_mem (i := i) hm
  rw [h] at hj; cases hj
theorem nodup_inj {l : List Nat} (hn : l.Nodup) {i j r : Nat} (hi : l[i]? = some r) (hj : l[j]? = some r) : i = j := by
  obtain ⟨a1, a2⟩ := List.getElem?_eq_some_iff.1 hi
  obtain ⟨b1, b2⟩ := List.getElem?_eq_some_iff.1 hj
  have hp := List.pairwise_iff_getElem.1 hn
  rcases Nat.lt_trichotomy i j with h | h | h
  · exact absurd (a2.trans b2.symm) (hp i j a1 b1 h)
  · exact h
  · exact absurd (b2.trans a2.symm) (hp j i b1 a1 h)
theorem idxIn_get {l : List Nat} (hn : l.Nodup) {j r : Nat} (h : l[j]? = some r) : idxIn r l 0 = some j := by
  obtain ⟨k, hk⟩ := idxIn_mem (i := 0) (List.mem_of_getElem? h)
  obtain ⟨_, h2⟩ := idxIn_some hk
  rw [Nat.sub_zero] at h2
  have : k = j := by
    exact nodup_inj hn h2 h
  rw [hk, this]

theorem close_spec {H : Heap} : ∀ {k : Nat} {todo acc rs : List Nat}, close H k todo acc = some rs → acc.Nodup → (∀ r ∈ acc, ∀ q ∈ refsOb (H.at r), q ∈ acc ∨ q ∈ todo) →
    rs.Nodup ∧ (∃ ext, rs = acc ++ ext) ∧ (∀ r ∈ todo, r ∈ rs) ∧ ∀ r ∈ rs, ∀ q ∈ refsOb (H.at r), q ∈ rs
  | 0, _, _, _, h, _, _ => by cases h
  | k + 1, [], acc, rs, h, hn, hc => by
    cases h
    exact ⟨hn, ⟨[], by simp⟩, fun r hr => by simp at hr, fun r hr q hq => (hc r hr q hq).resolve_right (by simp)⟩
  | k + 1, r :: todo, acc, rs, h, hn, hc => by
    unfold close at h
    split at h
    · rename_i hin
      have hin := inList_iff.1 hin
      obtain ⟨h1, ⟨ext, h2⟩, h3, h4⟩ := close_spec h hn (fun p hp q hq => (hc p hp q hq).elim .inl fun hq => by
        rcases List.mem_cons.1 hq with rfl | hq
        · exact .inl hin
        · exact .inr hq)
      refine ⟨h1, ⟨ext, h2⟩, fun p hp => ?_, h4⟩
      rcases List.mem_cons.1 hp with rfl | hp
      · rw [h2]; exact List.mem_append_left _ hin
      · exact h3 p hp
    · rename_i hin
      have hin : r ∉ acc := fun hm => hin (inList_iff.2 hm)
      obtain ⟨h1, ⟨ext, h2⟩, h3, h4⟩ := close_spec h (by rw [List.nodup_append]; exact ⟨hn, by simp, fun a ha b hb e => by simp at hb; subst hb; subst e; exact hin ha⟩) (fun p hp q hq => by
        rcases List.mem_append.1 hp with hp | hp
        · rcases hc p hp q hq with hq | hq
          · exact .inl (List.mem_append_left _ hq)
          · rcases List.mem_cons.1 hq with rfl | hq
            · exact .inl (List.mem_append_right _ (by simp))
            · exact .inr (List.mem_append_left _ hq)
        · simp at hp; subst hp
          exact .inr (List.mem_append_right _ hq))
      refine ⟨h1, ⟨[r] ++ ext, by rw [h2]; simp⟩, fun p hp => ?_, h4⟩
      rcases List.mem_cons.1 hp with rfl | hp
      · rw [h2]; exact List.mem_append_left _ (List.mem_append_right _ (by simp))
      · exact h3 p (List.mem_append_left _ hp)
theorem close_ok {H : Heap} {k : Nat} {todo rs : List Nat} (h : close H k todo [] = some rs) : rs.Nodup ∧ (∀ r ∈ todo, r ∈ rs) ∧ ∀ r ∈ rs, ∀ q ∈ refsOb (H.at r), q ∈ rs := by
  obtain ⟨h1, _, h3, h4⟩ := close_spec h (by simp) (fun r hr => by simp at hr)
  exact ⟨h1, h3, h4⟩
theorem close_prefix {H : Heap} : ∀ {k : Nat} {todo acc rs : List Nat}, close H k todo acc = some rs → ∃ ext, rs = acc ++ ext
  | 0, _, _, _, h => by cases h
  | k + 1, [], acc, rs, h => by cases h; exact ⟨[], by simp⟩
  | k + 1, r :: todo, acc, rs, h => by
    unfold close at h
    split at h
    · exact close_prefix h
    · obtain ⟨ext, rfl⟩ := close_prefix h
      exact ⟨[r] ++ ext, by simp⟩
/-- the first ones stay where they are -/
theorem close_range' {H : Heap} : ∀ {d i k : Nat} {todo rs : List Nat}, close H k (List.range' i d ++ todo) (List.range i) = some rs → ∃ ext, rs = List.range (i + d) ++ ext
  | 0, i, k, todo, rs, h => close_prefix h
  | d + 1, i, 0, todo, rs, h => by cases h
  | d + 1, i, k + 1, todo, rs, h => by
    rw [List.range'_succ, List.cons_append] at h
    unfold close at h
    rw [if_neg (by rw [inList_iff]; simp)] at h
    rw [← List.range_succ, List.append_assoc] at h
    obtain ⟨ext, h⟩ := close_range' h
    exact ⟨ext, by rw [h]; congr 2; omega⟩
theorem close_range {H : Heap} {k m : Nat} {todo rs : List Nat} (h : close H k (List.range m ++ todo) [] = some rs) : m ≤ rs.length ∧ ∀ i, i < m → rs[i]? = some i := by
  have h' : close H k (List.range' 0 m ++ todo) (List.range 0) = some rs := by rw [← List.range_eq_range']; exact h
  obtain ⟨ext, rfl⟩ := close_range' h'
  rw [Nat.zero_add]
  refine ⟨by simp, fun i hi => ?_⟩
  rw [List.getElem?_append_left (by simpa using hi), List.getElem?_range hi]

theorem renObs_get {f : Nat → Option Nat} {H : Heap} : ∀ {rs : List Nat} {os : Heap}, renObs f H rs = some os → os.length = rs.length ∧ ∀ (i r : Nat), rs[i]? = some r → ∃ o : Option Ob, renOb f (H.at r) = some o ∧ os[i]? = some o
  | [], os, h => by cases h; exact ⟨rfl, fun i r h => by simp at h⟩
  | r :: rs, os, h => by
    unfold renObs at h
    split at h
    · rename_i o os' h1 h2
      cases h
      obtain ⟨i1, i2⟩ := renObs_get h2
      refine ⟨by simp [i1], fun i r' hr => ?_⟩
      cases i with
      | zero => simp at hr; subst hr; exact ⟨o, h1, by simp⟩
      | succ i => simpa using i2 i r' (by simpa using hr)
    · cases h

/-! ### renaming -/
mutual
theorem renA_pure {f : Nat → Option Nat} : ∀ {a : AV}, pureA a = true → renA f a = some a
  | .int .., _ => rfl
  | .bool _, _ => rfl
  | .str _, _ => rfl
  | .sl .., _ => rfl
  | .osl .., h => by simp [pureA] at h
  | .ref .., h => by simp [pureA] at h
  | .eref .., h => by simp [pureA] at h
  | .rref .., _ => rfl
  | .lsl .., h => by simp [pureA] at h
  | .lref .., h => by simp [pureA] at h
  | .nilp, _ => rfl
  | .fn g a b, h => by
    simp only [pureA, Bool.and_eq_true] at h
    simp only [renA, renL_pure h.1, renL_pure h.2]
  | .nilfn, _ => rfl
  | .agg cs, h => by simp only [pureA] at h; simp only [renA, renL_pure h]; rfl
  | .tup cs, h => by simp only [pureA] at h; simp only [renA, renL_pure h]; rfl
  | .und, h => by simp [pureA] at h
theorem renL_pure {f : Nat → Option Nat} : ∀ {as_ : List AV}, pureL as_ = true → renL f as_ = some as_
  | [], _ => rfl
  | a :: as_, h => by
    simp only [pureL, Bool.and_eq_true] at h
    simp only [renL, renA_pure h.1, renL_pure h.2]
end
theorem renL_get {f : Nat → Option Nat} : ∀ {as_ bs : List AV}, renL f as_ = some bs → bs.length = as_.length ∧ ∀ j, j < as_.length → renA f (as_.getD j .und) = some (bs.getD j .und)
  | [], bs, h => by cases h; exact ⟨rfl, fun j hj => by simp at hj⟩
  | a :: as_, bs, h => by
    unfold renL at h
    split at h
    · rename_i b bs' h1 h2
      cases h
      obtain ⟨i1, i2⟩ := renL_get h2
      refine ⟨by simp [i1], fun j hj => ?_⟩
      cases j with
      | zero => simpa using h1
      | succ j => simpa using i2 j (by simpa using hj)
    · cases h
theorem renA_leaf {f : Nat → Option Nat} {a b : AV} (h : renA f a = some b) (hl : a.leaf = true) : b.leaf = true := by
  cases a <;> simp only [renA] at h <;> first | (cases h; exact hl) | skip
  · cases hf : f _ <;> rw [hf] at h <;> cases h; rfl
  · cases hf : f _ <;> rw [hf] at h <;> cases h; rfl
  · cases hf : f _ <;> rw [hf] at h <;> cases h; rfl
  · cases hf : renL f _ <;> rw [hf] at h <;> cases h; rfl
  · cases hf : renL f _ <;> rw [hf] at h <;> cases h; rfl
  · split at h <;> cases h; rfl
  · simp [AV.leaf] at hl
  · simp [AV.leaf] at hl
theorem renL_leaf {f : Nat → Option Nat} : ∀ {as_ bs : List AV}, renL f as_ = some bs → allLeaf as_ = true → allLeaf bs = true
  | [], bs, h, _ => by cases h; rfl
  | a :: as_, bs, h, hl => by
    unfold renL at h
    split at h
    · rename_i b bs' h1 h2
      cases h
      simp only [allLeaf, Bool.and_eq_true] at hl ⊢
      exact ⟨renA_leaf h1 hl.1, renL_leaf h2 hl.2⟩
    · cases h

/-- objects under new numbers, in another view of memory -/
structure Ren (G1 G2 : Gh) (f : Nat → Option Nat) (β : Nat → Nat) (H : Heap) (β' : Nat → Nat) (H' : Heap) (W : Array Obj) : Prop where
  imm : ∀ b, @Imm G1 β H W b → @Imm G2 β' H' W b
  box : ∀ r r' cs, f r = some r' → H.at r = some (.box cs) → β' r' = β r ∧ ∃ cs', H'.at r' = some (.box cs')
  arr : ∀ r r' sz n row, f r = some r' → (H.at r = some (.arr sz n row) ∨ H.at r = some (.fro sz n row)) → β' r' = β r ∧ ∃ row', H'.at r' = some (.arr sz n row') ∨ H'.at r' = some (.fro sz n row')
  dead : ∀ r r', f r = some r' → r < H.length → H.at r = none → r' < H'.length ∧ H'.at r' = none

theorem R.ren {G1 G2 : Gh} {f : Nat → Option Nat} {β β' : Nat → Nat} {H H' : Heap} {W : Array Obj} (k : Ren G1 G2 f β H β' H' W) {v : Value} {a : AV} (h : @R G1 β H W v a) : ∀ {a' : AV}, renA f a = some a' → @R G2 β' H' W v a' := by
  have one : ∀ {α γ : Type} {x : Option α} {g : α → γ} {y : γ}, x.map g = some y → ∃ z, x = some z ∧ g z = y := by
    intro α γ x g y h
    cases x with
    | none => cases h
    | some z => exact ⟨z, rfl, Option.some.inj h⟩
  induction h with
  | int k n => intro a' h; cases h; exact .int k n
  | bool b => intro a' h; cases h; exact .bool b
  | str s => intro a' h; cases h; exact .str s
  | sl0 a c sz row full hf => intro a' h; cases h; exact .sl0 a c sz row full hf
  | sl b o n c sz row full cs e fz vf hi hW hc hf hl hv hR ih =>
    intro a' h; cases h
    refine .sl b o n c sz row full cs e fz vf (k.imm b hi) hW hc hf hl hv fun i j hi hj => ih i j hi hj ?_
    obtain ⟨l1, l2, l3⟩ := hl i hi
    exact renA_pure (pureL_iff.1 l3 _ (getD_mem (by omega)))
  | osl r off len c sz N m row full a ha hH hW hn hc hf hs hu =>
    intro a' h
    simp only [renA] at h
    obtain ⟨r', hr, rfl⟩ := one h
    obtain ⟨e1, row', h1⟩ := k.arr r r' sz N row hr hH
    exact .osl r' off len c sz N m row' full a (by rw [e1]; exact ha) h1 (by rw [e1]; exact hW) hn hc hf hs hu
  | osld sz r off len c b o full a ha hc hf hr hH =>
    intro a' h
    simp only [renA] at h
    obtain ⟨r', hr', rfl⟩ := one h
    obtain ⟨h1, h2⟩ := k.dead r r' hr' hr hH
    exact .osld sz r' off len c b o full a ha hc hf h1 h2
  | ref r off cs hH =>
    intro a' h
    simp only [renA] at h
    obtain ⟨r', hr', rfl⟩ := one h
    obtain ⟨e1, cs', h1⟩ := k.box r r' cs hr' hH
    rw [← e1]; exact .ref r' off cs' h1
  | eref r i off sz N row hH hi =>
    intro a' h
    simp only [renA] at h
    obtain ⟨r', hr', rfl⟩ := one h
    obtain ⟨e1, row', h1⟩ := k.arr r r' sz N row hr' hH
    rw [← e1]; exact .eref r' i off sz N row' h1 hi
  | erefd r i off a hr hH =>
    intro a' h
    simp only [renA] at h
    obtain ⟨r', hr', rfl⟩ := one h
    obtain ⟨h1, h2⟩ := k.dead r r' hr' hr hH
    exact .erefd r' i off a h1 h2
  | rref b o off as_ cs e fz vf hi hW hl hv hR ih =>
    intro a' h; cases h
    exact .rref b o off as_ cs e fz vf (k.imm b hi) hW hl hv fun j hj => ih j hj (renA_pure (pureL_iff.1 hl.2 _ (getD_mem hj)))
  | lsl b o n sz as_ cs e fz vf hi hW hl hn hv hR ih =>
    intro a' h
    simp only [renA] at h
    obtain ⟨bs, hb, rfl⟩ := one h
    obtain ⟨l1, g1⟩ := renL_get hb
    exact .lsl b o n sz bs cs e fz vf (k.imm b hi) hW (renL_leaf hb hl) (by omega) (fun j hj => hv j (by omega)) fun j hj => ih j (by omega) (g1 j (by omega))
  | lref b o off as_ cs e fz vf hi hW hl hv hR ih =>
    intro a' h
    simp only [renA] at h
    obtain ⟨bs, hb, rfl⟩ := one h
    obtain ⟨l1, g1⟩ := renL_get hb
    exact .lref b o off bs cs e fz vf (k.imm b hi) hW (renL_leaf hb hl) (fun j hj => hv j (by omega)) fun j hj => ih j (by omega) (g1 j (by omega))
  | nilp => intro a' h; cases h; exact .nilp
  | fn g vs us as_ bs hv hu hR hS ihR ihS =>
    intro a' h
    simp only [renA] at h
    split at h
    · rename_i as' bs' h1 h2
      cases h
      obtain ⟨l1, g1⟩ := renL_get h1
      obtain ⟨l2, g2⟩ := renL_get h2
      exact .fn g vs us as' bs' (by omega) (by omega) (fun j hj => ihR j (by omega) (g1 j (by omega))) fun j hj => ihS j (by omega) (g2 j (by omega))
    · cases h
  | nilfn => intro a' h; cases h; exact .nilfn
  | agg vs as_ hv hl hR ih =>
    intro a' h
    simp only [renA] at h
    obtain ⟨bs, hb, rfl⟩ := one h
    obtain ⟨l1, g1⟩ := renL_get hb
    exact .agg vs bs (by omega) (renL_leaf hb hl) fun j hj => ih j (by omega) (g1 j (by omega))
  | tup vs as_ hv hR ih =>
    intro a' h
    simp only [renA] at h
    obtain ⟨bs, hb, rfl⟩ := one h
    obtain ⟨l1, g1⟩ := renL_get hb
    exact .tup vs bs (by omega) fun j hj => ih j (by omega) (g1 j (by omega))
  | und => intro a' h; cases h; exact .und
/-- a value that holds nothing of the call's own, in another view of memory -/
theorem R.mono {G1 G2 : Gh} {β β' : Nat → Nat} {H H' : Heap} {W : Array Obj} (k : ∀ b, @Imm G1 β H W b → @Imm G2 β' H' W b) {v : Value} {a : AV} (hp : pureA a = true) (h : @R G1 β H W v a) : @R G2 β' H' W v a :=
  R.ren (f := fun _ => none) ⟨k, fun _ _ _ h => (by cases h), fun _ _ _ _ _ h => (by cases h), fun _ _ h => (by cases h)⟩ h (renA_pure hp)
end Go.Ev

set_option linter.unusedVariables false
set_option linter.unusedSimpArgs false
set_option linter.unusedSectionVars false
namespace Go.Ev
open Go

/-! ### some of the objects, under new numbers -/
structure Sub (f : Nat → Option Nat) (rs : List Nat) (β : Nat → Nat) (H : Heap) (β' : Nat → Nat) (H' : Heap) : Prop where
  nodup : rs.Nodup
  os : renObs f H rs = some H'
  f : ∀ r r', f r = some r' → rs[r']? = some r
  β : ∀ i r, rs[i]? = some r → β' i = β r
theorem Sub.len {f : Nat → Option Nat} {rs : List Nat} {β : Nat → Nat} {H : Heap} {β' : Nat → Nat} {H' : Heap} (k : Sub f rs β H β' H') : H'.length = rs.length := (renObs_get k.os).1
theorem Sub.at_some {f : Nat → Option Nat} {rs : List Nat} {β : Nat → Nat} {H : Heap} {β' : Nat → Nat} {H' : Heap} (k : Sub f rs β H β' H') {i : Nat} {o' : Ob} (h : H'.at i = some o') :
    ∃ r o, rs[i]? = some r ∧ H.at r = some o ∧ renOb f (some o) = some (some o') := by
  have hl := Heap.at_lt h
  rw [k.len] at hl
  obtain ⟨o, h1, h2⟩ := (renObs_get k.os).2 i rs[i] (List.getElem?_eq_getElem hl)
  have : o = some o' := by
    unfold Heap.at at h
    rw [List.getD_eq_getElem?_getD, h2] at h
    exact h
  subst this
  cases ho : H.at rs[i] with
  | none => rw [ho] at h1; cases h1
  | some q => exact ⟨rs[i], q, List.getElem?_eq_getElem hl, ho, by rw [← ho]; exact h1⟩
theorem Sub.at_get {f : Nat → Option Nat} {rs : List Nat} {β : Nat → Nat} {H : Heap} {β' : Nat → Nat} {H' : Heap} (k : Sub f rs β H β' H') {i r : Nat} (h : rs[i]? = some r) :
    i < H'.length ∧ renOb f (H.at r) = some (H'.at i) := by
  obtain ⟨o, h1, h2⟩ := (renObs_get k.os).2 i r h
  obtain ⟨h3, _⟩ := List.getElem?_eq_some_iff.1 h2
  have : H'.at i = o := by
    unfold Heap.at
    rw [List.getD_eq_getElem?_getD, h2]; rfl
  exact ⟨h3, by rw [this]; exact h1⟩
theorem renOb_box {f : Nat → Option Nat} {o : Ob} {cs' : List AV} (h : renOb f (some o) = some (some (.box cs'))) : ∃ cs, o = .box cs ∧ renL f cs = some cs' := by
  cases o with
  | box cs =>
    simp only [renOb] at h
    cases hr : renL f cs with
    | none => rw [hr] at h; cases h
    | some as_ => rw [hr] at h; cases h; exact ⟨cs, rfl, hr⟩
  | arr sz n row => cases h
  | fro sz n row => cases h
theorem renOb_arr {f : Nat → Option Nat} {o : Ob} {sz n : Nat} {row : Nat → List AV} (h : renOb f (some o) = some (some (.arr sz n row))) : o = .arr sz n row := by
  cases o with
  | box cs =>
    simp only [renOb] at h
    cases hr : renL f cs with
    | none => rw [hr] at h; cases h
    | some as_ => rw [hr] at h; cases h
  | arr sz n row => cases h; rfl
  | fro sz n row => cases h
theorem renOb_fro {f : Nat → Option Nat} {o : Ob} {sz n : Nat} {row : Nat → List AV} (h : renOb f (some o) = some (some (.fro sz n row))) : o = .fro sz n row := by
  cases o with
  | box cs =>
    simp only [renOb] at h
    cases hr : renL f cs with
    | none => rw [hr] at h; cases h
    | some as_ => rw [hr] at h; cases h
  | arr sz n row => cases h
  | fro sz n row => cases h; rfl
theorem Sub.live {f : Nat → Option Nat} {rs : List Nat} {β : Nat → Nat} {H : Heap} {β' : Nat → Nat} {H' : Heap} (k : Sub f rs β H β' H') {i : Nat} (h : Live H' i) : ∃ r, rs[i]? = some r ∧ Live H r ∧ β' i = β r := by
  rcases h with ⟨cs, h⟩ | ⟨sz, n, row, h⟩
  · obtain ⟨r, o, h1, h2, h3⟩ := k.at_some h
    obtain ⟨cs', rfl, _⟩ := renOb_box h3
    exact ⟨r, h1, .inl ⟨_, h2⟩, k.β i r h1⟩
  · obtain ⟨r, o, h1, h2, h3⟩ := k.at_some h
    have := renOb_arr h3; subst this
    exact ⟨r, h1, .inr ⟨_, _, _, h2⟩, k.β i r h1⟩

theorem Sub.ren {G1 G2 : Gh} {f : Nat → Option Nat} {rs : List Nat} {β : Nat → Nat} {H : Heap} {β' : Nat → Nat} {H' : Heap} {W : Array Obj} (k : Sub f rs β H β' H')
    (hG : ∀ b, G2.g b → G1.g b ∨ ∃ r, Live H r ∧ β r = b) : Ren G1 G2 f β H β' H' W where
  imm b hb := by
    refine ⟨hb.1, fun i hi => ?_, fun hg => ?_⟩
    · obtain ⟨r, _, h2, h3⟩ := k.live hi
      rw [h3]; exact hb.2.1 r h2
    · rcases hG b hg with h | ⟨r, hr, he⟩
      · exact hb.2.2 h
      · exact hb.2.1 r hr he
  box r r' cs hf hr := by
    obtain ⟨h1, h2⟩ := k.at_get (k.f r r' hf)
    refine ⟨k.β _ _ (k.f r r' hf), ?_⟩
    rw [hr] at h2
    simp only [renOb] at h2
    cases hl : renL f cs with
    | none => rw [hl] at h2; cases h2
    | some as_ => rw [hl] at h2; exact ⟨as_, (Option.some.inj h2).symm⟩
  arr r r' sz n row hf hr := by
    obtain ⟨h1, h2⟩ := k.at_get (k.f r r' hf)
    refine ⟨k.β _ _ (k.f r r' hf), row, ?_⟩
    rcases hr with hr | hr <;> rw [hr] at h2 <;> simp only [renOb, Option.some.injEq] at h2
    · exact .inl h2.symm
    · exact .inr h2.symm
  dead r r' hf hl hr := by
    obtain ⟨h1, h2⟩ := k.at_get (k.f r r' hf)
    rw [hr] at h2
    simp only [renOb, Option.some.injEq] at h2
    exact ⟨h1, h2.symm⟩
theorem Sub.HR {G1 G2 : Gh} {f : Nat → Option Nat} {rs : List Nat} {β : Nat → Nat} {H : Heap} {β' : Nat → Nat} {H' : Heap} {W : Array Obj} (k : Sub f rs β H β' H') (h : @HR G1 β H W)
    (hG : ∀ b, G2.g b → G1.g b ∨ ∃ r, Live H r ∧ β r = b) (hG2 : ∀ b, G2.g b → ∀ i, Live H' i → β' i ≠ b) : @HR G2 β' H' W where
  inj i i' hi hi' e := by
    obtain ⟨r, h1, h2, h3⟩ := k.live hi
    obtain ⟨r', h1', h2', h3'⟩ := k.live hi'
    have := (@HR.inj G1 _ _ _ h) r r' h2 h2' (by rw [← h3, ← h3', e])
    subst this
    exact nodup_inj k.nodup h1 h1'
  gh b hb := by
    refine ⟨?_, hG2 b hb⟩
    rcases hG b hb with h' | ⟨r, hr, rfl⟩
    · exact ((@HR.gh G1 _ _ _ h) b h').1
    · exact @HR.lt G1 _ _ _ h _ hr
  box i as_ hi := by
    obtain ⟨r, o, h1, h2, h3⟩ := k.at_some hi
    obtain ⟨cs, rfl, hr⟩ := renOb_box h3
    obtain ⟨vs, e, w1, w2, w3, w4⟩ := @HR.box G1 _ _ _ h r cs h2
    obtain ⟨l1, l2⟩ := renL_get hr
    exact ⟨vs, e, by rw [k.β i r h1]; exact w1, by omega, renL_leaf hr w3, fun j hj => R.ren (k.ren hG) (w4 j (by omega)) (l2 j (by omega))⟩
  arr i sz n row hi := by
    obtain ⟨r, o, h1, h2, h3⟩ := k.at_some hi
    have := renOb_arr h3; subst this
    obtain ⟨vs, e, fz, w1, w2, w3, w4, w5⟩ := @HR.arr G1 _ _ _ h r sz n row h2
    exact ⟨vs, e, fz, by rw [k.β i r h1]; exact w1, w2, w3, w4, fun p j hp hj => R.mono (k.ren hG).imm (pureL_iff.1 (w4 p hp).2.2 _ (getD_mem (by rw [(w4 p hp).1]; exact hj))) (w5 p j hp hj)⟩
  fro i sz n row hi := by
    obtain ⟨r, o, h1, h2, h3⟩ := k.at_some hi
    have := renOb_fro h3; subst this
    obtain ⟨vs, e, fz, w0, w1, w2, w4, w5⟩ := @HR.fro G1 _ _ _ h r sz n row h2
    rw [k.β i r h1]
    exact ⟨vs, e, fz, (k.ren hG).imm _ w0, w1, w2, w4, fun p j hp hj => R.mono (k.ren hG).imm (pureL_iff.1 (w4 p hp).2.2 _ (getD_mem (by rw [(w4 p hp).1]; exact hj))) (w5 p j hp hj)⟩

/-! ### a loop's head -/
theorem renEnv_get {f : Nat → Option Nat} : ∀ {e e' : List (Option AV)}, renEnv f e = some e' → e'.length = e.length ∧ ∀ t b, e'.getD t none = some b → ∃ a, e.getD t none = some a ∧ renA f a = some b
  | [], e', h => by cases h; exact ⟨rfl, fun t b h => by simp at h⟩
  | none :: e, e', h => by
    unfold renEnv at h
    split at h
    · rename_i e2 h1
      cases h
      obtain ⟨i1, i2⟩ := renEnv_get h1
      refine ⟨by simp [i1], fun t b ht => ?_⟩
      cases t with
      | zero => simp at ht
      | succ t => simpa using i2 t b (by simpa using ht)
    · cases h
  | some a :: e, e', h => by
    unfold renEnv at h
    split at h
    · rename_i a2 e2 h1 h2
      cases h
      obtain ⟨i1, i2⟩ := renEnv_get h2
      refine ⟨by simp [i1], fun t b ht => ?_⟩
      cases t with
      | zero => simp at ht; subst ht; exact ⟨a, by simp, h1⟩
      | succ t => simpa using i2 t b (by simpa using ht)
    · cases h
variable [Gh]
/-- how far the code has come -/
structure At (β0 : Nat → Nat) (H0 : Heap) (w0 : World) (a0 : Act) (s : St) (a : Act) (w : World) (β : Nat → Nat) : Prop where
  hr : HR β s.heap w.heap
  er : ER β s.heap w.heap a.tmps s.env
  evo : Evo β0 H0 w0.heap β s.heap w.heap
  same : Same w0 w
  defs : a.defers = a0.defers
theorem gc_ok {ts : List Nat} {s s' : St} {β0 : Nat → Nat} {H0 : Heap} {w0 : World} {a0 a : Act} {w : World} {β : Nat → Nat} (h : gc H0.length ts s = some s') (hA : At β0 H0 w0 a0 s a w β) : ∃ β', At β0 H0 w0 a0 s' a w β' := by
  unfold gc at h
  simp only at h
  split at h
  · cases h
  rename_i rs hrs
  split at h
  case h_2 => cases h
  rename_i e' H' he hH
  cases h
  obtain ⟨hn, _, _⟩ := close_ok hrs
  obtain ⟨hm, hfirst⟩ := close_range hrs
  have k : Sub (fun r => idxIn r rs 0) rs β s.heap (fun i => β (rs.getD i 0)) H' := by
    refine ⟨hn, hH, fun r r' hf => ?_, fun i r hi => ?_⟩
    · have := (idxIn_some hf).2
      rwa [Nat.sub_zero] at this
    · simp only [List.getD_eq_getElem?_getD, hi, Option.getD_some]
  have hG : ∀ b, Gh.g b → Gh.g b ∨ ∃ r, Live s.heap r ∧ β r = b := fun b hb => .inl hb
  obtain ⟨l1, l2⟩ := renEnv_get he
  obtain ⟨hhr, her, hev, hsm, hdf⟩ := hA
  refine ⟨_, k.HR hhr hG (fun b hb i hi => ?_), ⟨?_, fun t b ht => ?_⟩, ?_, hsm, hdf⟩
  · obtain ⟨r, _, h2, h3⟩ := k.live hi
    rw [h3]; exact (hhr.gh b hb).2 r h2
  · simp only [l1, keep_length]; exact her.1
  · obtain ⟨av, h1, h2⟩ := l2 t b ht
    rw [keep_getD] at h1
    split at h1
    · obtain ⟨v, hv1, hv2⟩ := her.2 t av h1
      exact ⟨v, hv1, hv2.ren (k.ren hG) h2⟩
    · cases h1
  · have hb : ∀ r, r < H0.length → β (rs.getD r 0) = β r ∧ renOb (fun r => idxIn r rs 0) (s.heap.at r) = some (H'.at r) := fun r hr => by
      refine ⟨by rw [List.getD_eq_getElem?_getD, hfirst r hr]; rfl, (k.at_get (hfirst r hr)).2⟩
    refine ⟨hev.size, hev.gh, fun b hi => ?_, by rw [k.len]; exact hm, fun r as_ hr => ?_, fun r sz n row hr => ?_, fun r sz n row hr => ?_, fun r hl hr => ?_⟩
    · obtain ⟨h1, h2⟩ := hev.imm b hi
      exact ⟨h1, (k.ren hG).imm b h2⟩
    · obtain ⟨e1, as', h1⟩ := hev.box r as_ hr
      obtain ⟨e2, h2⟩ := hb r (Heap.at_lt hr)
      refine ⟨e2.trans e1, ?_⟩
      rw [h1] at h2
      simp only [renOb] at h2
      cases hl : renL (fun r => idxIn r rs 0) as' with
      | none => rw [hl] at h2; cases h2
      | some bs => rw [hl] at h2; exact ⟨bs, (Option.some.inj h2).symm⟩
    · obtain ⟨e2, h2⟩ := hb r (Heap.at_lt hr)
      rcases hev.arr r sz n row hr with hd | ⟨e1, ⟨row', h1⟩, hc⟩
      · rw [hd] at h2; simp only [renOb, Option.some.injEq] at h2; exact .inl h2.symm
      · refine .inr ⟨e2.trans e1, ⟨row', ?_⟩, hc⟩
        rcases h1 with h1 | h1 <;> rw [h1] at h2 <;> simp only [renOb, Option.some.injEq] at h2
        · exact .inl h2.symm
        · exact .inr h2.symm
    · obtain ⟨e2, h2⟩ := hb r (Heap.at_lt hr)
      obtain ⟨e1, h1, hc⟩ := hev.fro r sz n row hr
      rw [h1] at h2; simp only [renOb, Option.some.injEq] at h2
      exact ⟨e2.trans e1, h2.symm, hc⟩
    · obtain ⟨e2, h2⟩ := hb r hl
      rw [hev.dead r hl hr] at h2; simp only [renOb, Option.some.injEq] at h2
      exact h2.symm
end Go.Ev

set_option linter.unusedVariables false
set_option linter.unusedSimpArgs false
set_option linter.unusedSectionVars false
namespace Go.Ev
open Go

/-- regions whose order is left open are in order -/
def codeOk (c : Ctx) : Code → Bool
  | .region _ ops dr => !dr || regOk c ops
  | .seq a b => codeOk c a && codeOk c b
  | .cond _ a b => codeOk c a && codeOk c b
  | .block _ a => codeOk c a
  | .loop a => codeOk c a
  | .scope a => codeOk c a
  | _ => true
def exitOf : Ex → Exit
  | .normal => .normal
  | .exit id => .exit id
  | .ret => .ret

theorem exists_least (p : Nat → Prop) (h : ∃ n, p n) : ∃ n, p n ∧ ∀ m, p m → n ≤ m := by
  obtain ⟨n, hn⟩ := h
  induction n using Nat.strongRecOn with
  | ind n ih =>
    by_cases h : ∃ m, m < n ∧ p m
    · obtain ⟨m, hm, hp⟩ := h; exact ih m hm hp
    · exact ⟨n, hn, fun m hm => Nat.le_of_not_lt fun hl => h ⟨m, hl, hm⟩⟩

variable [Gh]
section
variable {ρ : Type} {P : Program} {c : Ctx} {g : Bool → Call1} {β0 : Nat → Nat} {H0 : Heap} {w0 : World} {a0 : Act}

/-- what must be known -/
structure Known (P : Program) (c : Ctx) (g : Bool → Call1) : Prop where
  ctx : CtxOK c P
  cmp : CmpAll c P
  call : ∀ d, Call1OK P (g d)
  quiet : (g true).Quiet c
  mono : (g true).Mono c
  stay : (g true).Stay
  mixed : P.follows .mixedOrders = true

theorem region_ok (K : Known P c g) {id : Nat} {ops : Array Oper} {dr : Bool} (hok : (!dr || regOk c ops) = true) {Q : Exit → Act → World → Prop} {s : St} (hroot : (!dr || rootsB c ops s.env) = true) {κ : St → Option ρ} {x : ρ} {a : Act} {w : World} {β : Nat → Nat}
    (h : opsE c (g dr).on ops.toList ops.toList [] s κ = some x) (hA : At β0 H0 w0 a0 s a w β) (hQ : ∀ s' a' w' β', κ s' = some x → At β0 H0 w0 a0 s' a' w' β' → Q .normal a' w') : (Code.region id ops dr).wp P Q a w := by
  obtain ⟨rs, s', hrun, hk⟩ := opsE_run KnEnv.nil h
  obtain ⟨hhr, her, hev, hsm, hdf⟩ := hA
  have fin : ∀ a' w' β', HR β' s'.heap w'.heap → ER β' s'.heap w'.heap a'.tmps s'.env → Evo β s.heap w.heap β' s'.heap w'.heap → Same w w' → a'.defers = a.defers → Q .normal a' w' :=
    fun a' w' β' q1 q2 q3 q4 q5 => hQ s' a' w' β' hk ⟨q1, q2, hev.trans q3, hsm.trans q4, q5.trans hdf⟩
  cases dr with
  | true => exact drawn_wp K.ctx K.cmp (K.call true) K.quiet K.mono K.stay (by simpa using hok) (by simpa using hroot) K.mixed hrun hhr her fin
  | false =>
    refine wp_region ?_
    have := run_wp (i := 0) (Q := Q) K.ctx K.cmp (K.call false) hrun (by simp) hhr her fin
    rwa [Nat.sub_zero, ← List.range_eq_range'] at this

theorem codeE_ok (K : Known P c g) {lv : List (Nat × List Nat)} {k : Nat} : ∀ (code : Code), codeOk c code = true → ∀ {Q : Exit → Act → World → Prop} {κ : Ex → St → Option ρ} {x : ρ} {s : St} {a : Act} {w : World} {β : Nat → Nat},
    codeE c lv H0.length k (fun d => (g d).on) code κ s = some x → At β0 H0 w0 a0 s a w β → (∀ ex s' a' w' β', κ ex s' = some x → At β0 H0 w0 a0 s' a' w' β' → Q (exitOf ex) a' w') → code.wp P Q a w
  | .skip, _, Q, κ, x, s, a, w, β, h, hA, hQ => wp_skip (hQ .normal s a w β h hA)
  | .label _, _, Q, κ, x, s, a, w, β, h, hA, hQ => wp_label (hQ .normal s a w β h hA)
  | .region id ops dr, hok, Q, κ, x, s, a, w, β, h, hA, hQ => by
    simp only [codeE] at h
    cases hb : (!dr || rootsB c ops s.env) with
    | false => rw [hb] at h; cases h
    | true =>
    rw [hb, cond_true] at h
    refine region_ok K hok hb h hA fun s' a' w' β' hk hA' => ?_
    unfold endR at hk
    split at hk
    · exact hQ .normal s' a' w' β' hk hA'
    · split at hk
      · cases hk
      rename_i s1 hgc
      obtain ⟨β1, hA1⟩ := gc_ok hgc hA'
      exact hQ .normal s1 a' w' β1 hk hA1
  | .seq p q, hok, Q, κ, x, s, a, w, β, h, hA, hQ => by
    simp only [codeOk, Bool.and_eq_true] at hok
    refine wp_seq (codeE_ok K p hok.1 h hA ?_)
    intro ex s' a' w' β' hk hA'
    cases ex with
    | normal => exact codeE_ok K q hok.2 hk hA' hQ
    | exit id => exact hQ _ s' a' w' β' hk hA'
    | ret => exact hQ _ s' a' w' β' hk hA'
  | .cond y p q, hok, Q, κ, x, s, a, w, β, h, hA, hQ => by
    simp only [codeOk, Bool.and_eq_true] at hok
    simp only [codeE] at h
    split at h
    · rename_i t ht
      have hy := (opd_ok hA.er ht).inv_bool
      refine wp_cond hy ?_
      cases t with
      | true => exact codeE_ok K p hok.1 h hA hQ
      | false => exact codeE_ok K q hok.2 h hA hQ
    · cases h
  | .block id p, hok, Q, κ, x, s, a, w, β, h, hA, hQ => by
    simp only [codeOk] at hok
    refine wp_block (codeE_ok K p hok h hA ?_)
    intro ex s' a' w' β' hk hA'
    cases ex with
    | normal => exact hQ _ s' a' w' β' hk hA'
    | ret => exact hQ _ s' a' w' β' hk hA'
    | exit j =>
      simp only at hk
      simp only [exitOf, Exit.inBlock]
      split
      · rename_i hj
        rw [if_pos hj] at hk
        exact hQ .normal s' a' w' β' hk hA'
      · rename_i hj
        rw [if_neg hj] at hk
        exact hQ (.exit j) s' a' w' β' hk hA'
  | .loop p, hok, Q, κ, x, s, a, w, β, h, hA, hQ => by
    simp only [codeOk] at hok
    simp only [codeE] at h
    let I : Nat → Act → World → Prop := fun n a w => ∃ s β, loopN (codeE c lv H0.length k (fun d => (g d).on) p) (gc H0.length ((find1 (headOf p) lv).getD [])) n κ s = some x ∧ At β0 H0 w0 a0 s a w β
    have hex : ∀ a w, (∃ n, I n a w) → ∃ n, I n a w ∧ ∀ m, I m a w → n ≤ m := fun a w hh => exists_least _ hh
    let μ : Act → World → Nat := fun a w => by
      classical
      exact if hh : ∃ n, I n a w then Classical.choose (hex a w hh) else 0
    have hμ : ∀ a w, (∃ n, I n a w) → I (μ a w) a w ∧ ∀ m, I m a w → μ a w ≤ m := by
      intro a w hh
      have : μ a w = Classical.choose (hex a w hh) := dif_pos hh
      rw [this]
      exact Classical.choose_spec (hex a w hh)
    refine wp_loop (fun a w => ∃ n, I n a w) μ ⟨k, s, β, h, hA⟩ ?_
    intro a w hh
    obtain ⟨⟨s, β, hn, hA⟩, _⟩ := hμ a w hh
    generalize hm : μ a w = n at hn
    cases n with
    | zero => rw [loopN_zero] at hn; cases hn
    | succ n =>
      simp only [loopN_succ] at hn
      split at hn
      · cases hn
      rename_i s1 hgc
      obtain ⟨β1, hA1⟩ := gc_ok hgc hA
      refine codeE_ok K p hok hn hA1 ?_
      intro ex s' a' w' β' hk hA'
      cases ex with
      | normal =>
        have hI : I n a' w' := ⟨s', β', hk, hA'⟩
        exact ⟨⟨n, hI⟩, Nat.lt_succ_of_le ((hμ a' w' ⟨n, hI⟩).2 n hI)⟩
      | exit id => exact hQ _ s' a' w' β' hk hA'
      | ret => exact hQ _ s' a' w' β' hk hA'
  | .exit id, _, Q, κ, x, s, a, w, β, h, hA, hQ => wp_exit (hQ (.exit id) s a w β h hA)
  | .ret, _, Q, κ, x, s, a, w, β, h, hA, hQ => wp_ret (hQ .ret s a w β h hA)
  | .goto _, _, Q, κ, x, s, a, w, β, h, hA, hQ => by cases h
  | .rangeFunc .., _, Q, κ, x, s, a, w, β, h, hA, hQ => by cases h
  | .scope p, hok, Q, κ, x, s, a, w, β, h, hA, hQ => by
    simp only [codeE] at h
    refine wp_scope_straight (codeE_ok K p hok h hA ?_)
    intro ex s' a' w' β' hk hA'
    have := hQ ex s' a' w' β' hk hA'
    cases ex <;> exact this
  | .refuse _, _, Q, κ, x, s, a, w, β, h, hA, hQ => by cases h
end
end Go.Ev

set_option linter.unusedVariables false
set_option linter.unusedSimpArgs false
set_option linter.unusedSectionVars false
namespace Go.Ev
open Go

/-! ### objects put back -/
theorem allLt_iff {n : Nat} : ∀ {rs : List Nat}, allLt n rs = true ↔ ∀ r ∈ rs, r < n
  | [] => by simp [allLt]
  | r :: rs => by simp [allLt, allLt_iff (rs := rs)]
theorem setAll_length : ∀ {rs : List Nat} {H os : Heap}, (setAll H rs os).length = H.length
  | [], H, os => by cases os <;> rfl
  | r :: rs, H, [] => rfl
  | r :: rs, H, o :: os => by simp only [setAll]; rw [setAll_length]; simp
theorem setAll_not {q : Nat} : ∀ {rs : List Nat} {H os : Heap}, q ∉ rs → (setAll H rs os).at q = H.at q
  | [], H, os, _ => by cases os <;> rfl
  | r :: rs, H, [], _ => rfl
  | r :: rs, H, o :: os, h => by
    simp only [setAll]
    rw [setAll_not (fun hm => h (by simp [hm])), at_set_ne (fun e => h (by simp [e]))]
theorem setAll_get {r : Nat} : ∀ {rs : List Nat} {H os : Heap} {i : Nat}, rs.Nodup → rs[i]? = some r → i < os.length → r < H.length → (setAll H rs os).at r = os.at i
  | [], H, os, i, _, h, _, _ => by simp at h
  | q :: rs, H, [], i, _, _, h, _ => by simp at h
  | q :: rs, H, o :: os, i, hn, h, hi, hl => by
    simp only [setAll]
    cases i with
    | zero =>
      simp at h; subst h
      rw [setAll_not (List.nodup_cons.1 hn).1, at_set_eq hl]
      rfl
    | succ i =>
      have := setAll_get (rs := rs) (H := H.set q o) (os := os) (i := i) (List.nodup_cons.1 hn).2 (by simpa using h) (by simpa using hi) (by simpa using hl)
      rw [this]; rfl
theorem at_append_lt {H K : Heap} {q : Nat} (h : q < H.length) : Heap.at (H ++ K) q = H.at q := by
  unfold Heap.at
  rw [List.getD_eq_getElem?_getD, List.getD_eq_getElem?_getD, List.getElem?_append_left h]
theorem at_append_ge {H K : Heap} {j : Nat} : Heap.at (H ++ K) (H.length + j) = K.at j := by
  unfold Heap.at
  rw [List.getD_eq_getElem?_getD, List.getD_eq_getElem?_getD, List.getElem?_append_right (by omega), Nat.add_sub_cancel_left]
theorem at_drop {K : Heap} {n j : Nat} : Heap.at (K.drop n) j = K.at (n + j) := by
  unfold Heap.at
  rw [List.getD_eq_getElem?_getD, List.getD_eq_getElem?_getD, List.getElem?_drop]
theorem at_take {K : Heap} {n j : Nat} (h : j < n) : Heap.at (K.take n) j = K.at j := by
  unfold Heap.at
  rw [List.getD_eq_getElem?_getD, List.getD_eq_getElem?_getD, List.getElem?_take, if_pos h]

/-- how the objects of a call go back to its caller -/
structure Back (f : Nat → Option Nat) (rs : List Nat) (β : Nat → Nat) (H : Heap) (β1 : Nat → Nat) (H1 : Heap) (β2 : Nat → Nat) (Hf : Heap) : Prop where
  len : H.length ≤ Hf.length
  lt : ∀ r ∈ rs, r < H.length
  keep : ∀ q, q < H.length → q ∉ rs → β2 q = β q ∧ Hf.at q = H.at q
  pass : ∀ i r, rs[i]? = some r → f i = some r
  go : ∀ p q, f p = some q → q < Hf.length ∧ β2 q = β1 p ∧ renOb f (H1.at p) = some (Hf.at q)
  come : ∀ q, q < Hf.length → (q < H.length ∧ q ∉ rs) ∨ ∃ p, f p = some q
theorem back_of {rs ks : List Nat} {H H1 os : Heap} {β β1 : Nat → Nat} {f : Nat → Option Nat} (hn : rs.Nodup) (hlt : ∀ r ∈ rs, r < H.length) (hk : ks.Nodup) (hkl : rs.length ≤ ks.length) (hki : ∀ i, i < rs.length → ks[i]? = some i)
    (hf : f = fun i => if i < rs.length then rs[i]? else (idxIn i ks 0).map fun j => H.length + (j - rs.length)) (hos : renObs f H1 ks = some os) :
    ∃ β2, Back f rs β H β1 H1 β2 (setAll H rs (os.take rs.length) ++ os.drop rs.length) := by
  obtain ⟨hol, hog⟩ := renObs_get hos
  have hog : ∀ i r, ks[i]? = some r → renOb f (H1.at r) = some (os.at i) := by
    intro i r h
    obtain ⟨o, h1, h2⟩ := hog i r h
    have : os.at i = o := by unfold Heap.at; rw [List.getD_eq_getElem?_getD, h2]; rfl
    rw [this]; exact h1
  have hflen : (setAll H rs (os.take rs.length) ++ os.drop rs.length).length = H.length + (ks.length - rs.length) := by
    rw [List.length_append, setAll_length, List.length_drop, hol]
  have fpass : ∀ i r, rs[i]? = some r → f i = some r := by
    intro i r h
    have hi : i < rs.length := (List.getElem?_eq_some_iff.1 h).1
    rw [hf]; simp only
    rw [if_pos hi]; exact h
  have fnew : ∀ j p, ks[j]? = some p → rs.length ≤ j → f p = some (H.length + (j - rs.length)) := by
    intro j p h hj
    have hp : ¬ p < rs.length := fun hp => by
      have := nodup_inj hk (hki p hp) h; omega
    rw [hf]; simp only
    rw [if_neg hp, idxIn_get hk h]; rfl
  refine ⟨fun q => if q < H.length then (match idxIn q rs 0 with | some i => β1 i | none => β q) else β1 (ks.getD (rs.length + (q - H.length)) 0), ?_, hlt, fun q hq hnq => ⟨?_, ?_⟩, fpass, fun p q hpq => ?_, fun q hq => ?_⟩
  · rw [hflen]; omega
  · simp only [if_pos hq]
    cases hi : idxIn q rs 0 with
    | none => rfl
    | some i => exact absurd (List.mem_of_getElem? (idxIn_some hi).2) hnq
  · rw [at_append_lt (by rw [setAll_length]; exact hq), setAll_not hnq]
  · rw [hf] at hpq
    simp only at hpq
    split at hpq
    · rename_i hp
      have hql := hlt q (List.mem_of_getElem? hpq)
      refine ⟨by rw [hflen]; omega, ?_, ?_⟩
      · simp only [if_pos hql, idxIn_get hn hpq]
      · rw [at_append_lt (by rw [setAll_length]; exact hql), setAll_get hn hpq (by rw [List.length_take]; omega) hql, at_take hp]
        exact hog p p (hki p hp)
    · rename_i hp
      cases hi : idxIn p ks 0 with
      | none => rw [hi] at hpq; cases hpq
      | some j =>
        rw [hi] at hpq
        simp only [Option.map_some, Option.some.injEq] at hpq
        subst hpq
        have hj := (idxIn_some hi).2
        rw [Nat.sub_zero] at hj
        have hjl : j < ks.length := (List.getElem?_eq_some_iff.1 hj).1
        have hjr : rs.length ≤ j := Nat.le_of_not_lt fun h => by
          have := hki j h
          rw [hj] at this
          have := Option.some.inj this; omega
        refine ⟨by rw [hflen]; omega, ?_, ?_⟩
        · simp only [if_neg (show ¬ H.length + (j - rs.length) < H.length by omega)]
          rw [show rs.length + (H.length + (j - rs.length) - H.length) = j by omega, List.getD_eq_getElem?_getD, hj]; rfl
        · have := at_append_ge (H := setAll H rs (os.take rs.length)) (K := os.drop rs.length) (j := j - rs.length)
          rw [setAll_length] at this
          rw [this, at_drop, show rs.length + (j - rs.length) = j by omega]
          exact hog j p hj
  · by_cases hql : q < H.length
    · by_cases hm : q ∈ rs
      · obtain ⟨i, hi⟩ := idxIn_mem (i := 0) hm
        have := (idxIn_some hi).2
        rw [Nat.sub_zero] at this
        exact .inr ⟨i, fpass i q this⟩
      · exact .inl ⟨hql, hm⟩
    · rw [hflen] at hq
      have hj : rs.length + (q - H.length) < ks.length := by omega
      refine .inr ⟨ks[rs.length + (q - H.length)], ?_⟩
      rw [fnew (rs.length + (q - H.length)) _ (List.getElem?_eq_getElem hj) (by omega)]
      congr 1; omega

section
variable {G G' : Gh} {f : Nat → Option Nat} {rs : List Nat} {β β0 β1 β2 : Nat → Nat} {H H0 H1 Hf : Heap} {W W' : Array Obj}
theorem Back.come_at (k : Back f rs β H β1 H1 β2 Hf) {q : Nat} {o : Ob} (h : Hf.at q = some o) : (q < H.length ∧ q ∉ rs ∧ H.at q = some o ∧ β2 q = β q) ∨ ∃ p o0, f p = some q ∧ H1.at p = some o0 ∧ renOb f (some o0) = some (some o) ∧ β2 q = β1 p := by
  rcases k.come q (Heap.at_lt h) with ⟨h1, h2⟩ | ⟨p, hp⟩
  · obtain ⟨e1, e2⟩ := k.keep q h1 h2
    exact .inl ⟨h1, h2, by rw [← e2]; exact h, e1⟩
  · obtain ⟨_, e1, e2⟩ := k.go p q hp
    rw [h] at e2
    cases ho : H1.at p with
    | none => rw [ho] at e2; cases e2
    | some o0 => exact .inr ⟨p, o0, hp, ho, by rw [← ho]; exact e2, e1⟩
theorem Back.come_live (k : Back f rs β H β1 H1 β2 Hf) {q : Nat} (h : Live Hf q) : (q < H.length ∧ q ∉ rs ∧ Live H q ∧ β2 q = β q) ∨ ∃ p, f p = some q ∧ Live H1 p ∧ β2 q = β1 p := by
  rcases h with ⟨cs, h⟩ | ⟨sz, n, row, h⟩
  · rcases k.come_at h with ⟨h1, h2, h3, h4⟩ | ⟨p, o0, h1, h2, h3, h4⟩
    · exact .inl ⟨h1, h2, .inl ⟨_, h3⟩, h4⟩
    · obtain ⟨cs', rfl, _⟩ := renOb_box h3
      exact .inr ⟨p, h1, .inl ⟨_, h2⟩, h4⟩
  · rcases k.come_at h with ⟨h1, h2, h3, h4⟩ | ⟨p, o0, h1, h2, h3, h4⟩
    · exact .inl ⟨h1, h2, .inr ⟨_, _, _, h3⟩, h4⟩
    · have := renOb_arr h3; subst this
      exact .inr ⟨p, h1, .inr ⟨_, _, _, h2⟩, h4⟩
theorem Back.ren (k : Back f rs β H β1 H1 β2 Hf) (hG1 : ∀ b, G.g b → G'.g b) (hG2 : ∀ q, Live H q → q ∉ rs → G'.g (β q)) : Ren G' G f β1 H1 β2 Hf W' where
  imm b hb := by
    refine ⟨hb.1, fun q hq => ?_, fun hg => hb.2.2 (hG1 b hg)⟩
    rcases k.come_live hq with ⟨_, h2, h3, h4⟩ | ⟨p, _, h2, h3⟩
    · rw [h4]; rintro rfl; exact hb.2.2 (hG2 q h3 h2)
    · rw [h3]; exact hb.2.1 p h2
  box r r' cs hf hr := by
    obtain ⟨_, e1, e2⟩ := k.go r r' hf
    refine ⟨e1, ?_⟩
    rw [hr] at e2
    simp only [renOb] at e2
    cases hl : renL f cs with
    | none => rw [hl] at e2; cases e2
    | some as_ => rw [hl] at e2; exact ⟨as_, (Option.some.inj e2).symm⟩
  arr r r' sz n row hf hr := by
    obtain ⟨_, e1, e2⟩ := k.go r r' hf
    refine ⟨e1, row, ?_⟩
    rcases hr with hr | hr <;> rw [hr] at e2 <;> simp only [renOb, Option.some.injEq] at e2
    · exact .inl e2.symm
    · exact .inr e2.symm
  dead r r' hf _ hr := by
    obtain ⟨h1, _, e2⟩ := k.go r r' hf
    rw [hr] at e2
    simp only [renOb, Option.some.injEq] at e2
    exact ⟨h1, e2.symm⟩
end
end Go.Ev

set_option linter.unusedVariables false
set_option linter.unusedSimpArgs false
set_option linter.unusedSectionVars false
namespace Go.Ev
open Go

section
variable {G G' : Gh} {f f0 : Nat → Option Nat} {rs : List Nat} {β β0 β1 β2 : Nat → Nat} {H H0 H1 Hf : Heap} {W W' : Array Obj}

theorem Back.evo (k : Back f rs β H β1 H1 β2 Hf) (k0 : Sub f0 rs β H β0 H0) (h : @HR G β H W) (hG : ∀ b, G'.g b ↔ G.g b ∨ ∃ q, Live H q ∧ q ∉ rs ∧ β q = b) (hE : @Evo G' β0 H0 W β1 H1 W') : @Evo G β H W β2 Hf W' := by
  have hG1 : ∀ b, G.g b → G'.g b := fun b hb => (hG b).2 (.inl hb)
  have hG2 : ∀ q, Live H q → q ∉ rs → G'.g (β q) := fun q h1 h2 => (hG _).2 (.inr ⟨q, h1, h2, rfl⟩)
  have hR0 : Ren G G' f0 β H β0 H0 W := k0.ren fun b hb => ((hG b).1 hb).imp id fun ⟨q, h1, _, h2⟩ => ⟨q, h1, h2⟩
  have hren : Ren G' G f β1 H1 β2 Hf W' := k.ren hG1 hG2
  have idx : ∀ r, r ∈ rs → ∃ i, rs[i]? = some r ∧ i < H0.length ∧ β0 i = β r ∧ renOb f0 (H.at r) = some (H0.at i) ∧ β2 r = β1 i ∧ renOb f (H1.at i) = some (Hf.at r) := by
    intro r hr
    obtain ⟨i, hi⟩ := idxIn_mem (i := 0) hr
    have hi := (idxIn_some hi).2
    rw [Nat.sub_zero] at hi
    obtain ⟨h1, h2⟩ := k0.at_get hi
    obtain ⟨_, h3, h4⟩ := k.go i r (k.pass i r hi)
    exact ⟨i, hi, h1, k0.β i r hi, h2, h3, h4⟩
  have hold : ∀ b, @Imm G β H W b → W'[b]? = W[b]? := fun b hb => (@Evo.imm G' _ _ _ _ _ _ hE b (hR0.imm b hb)).1
  have hlive : ∀ q, Live H q → q ∉ rs → W'[β q]? = W[β q]? := fun q h1 h2 => @Evo.gh G' _ _ _ _ _ _ hE _ (hG2 q h1 h2) (@HR.lt G _ _ _ h _ h1)
  refine @Evo.mk G _ _ _ _ _ _ (@Evo.size G' _ _ _ _ _ _ hE) (fun b hb hl => @Evo.gh G' _ _ _ _ _ _ hE b (hG1 b hb) hl) (fun b hb => ⟨hold b hb, hren.imm b (@Evo.imm G' _ _ _ _ _ _ hE b (hR0.imm b hb)).2⟩) k.len ?_ ?_ ?_ ?_
  · intro r as_ hr
    by_cases hm : r ∈ rs
    · obtain ⟨i, hi, hl, e1, e2, e3, e4⟩ := idx r hm
      rw [hr] at e2
      have hbox : ∃ cs, H0.at i = some (.box cs) := by
        simp only [renOb] at e2
        cases hl : renL f0 as_ with
        | none => rw [hl] at e2; cases e2
        | some bs => rw [hl] at e2; exact ⟨bs, (Option.some.inj e2).symm⟩
      obtain ⟨cs, hcs⟩ := hbox
      obtain ⟨e5, cs', h5⟩ := @Evo.box G' _ _ _ _ _ _ hE i cs hcs
      refine ⟨e3.trans (e5.trans e1), ?_⟩
      rw [h5] at e4
      simp only [renOb] at e4
      cases hl : renL f cs' with
      | none => rw [hl] at e4; cases e4
      | some bs => rw [hl] at e4; exact ⟨bs, (Option.some.inj e4).symm⟩
    · obtain ⟨e1, e2⟩ := k.keep r (Heap.at_lt hr) hm
      exact ⟨e1, as_, e2.trans hr⟩
  · intro r sz n row hr
    by_cases hm : r ∈ rs
    · obtain ⟨i, hi, hl, e1, e2, e3, e4⟩ := idx r hm
      rw [hr] at e2
      simp only [renOb, Option.some.injEq] at e2
      rcases @Evo.arr G' _ _ _ _ _ _ hE i sz n row e2.symm with hd | ⟨e5, ⟨row', h5⟩, hc⟩
      · rw [hd] at e4; simp only [renOb, Option.some.injEq] at e4; exact .inl e4.symm
      · refine .inr ⟨e3.trans (e5.trans e1), ⟨row', ?_⟩, by rw [← e1]; exact hc⟩
        rcases h5 with h5 | h5 <;> rw [h5] at e4 <;> simp only [renOb, Option.some.injEq] at e4
        · exact .inl e4.symm
        · exact .inr e4.symm
    · obtain ⟨e1, e2⟩ := k.keep r (Heap.at_lt hr) hm
      exact .inr ⟨e1, ⟨row, .inl (e2.trans hr)⟩, cellsAt_congr (hlive r (.inr ⟨_, _, _, hr⟩) hm)⟩
  · intro r sz n row hr
    by_cases hm : r ∈ rs
    · obtain ⟨i, hi, hl, e1, e2, e3, e4⟩ := idx r hm
      rw [hr] at e2
      simp only [renOb, Option.some.injEq] at e2
      obtain ⟨e5, h5, hc⟩ := @Evo.fro G' _ _ _ _ _ _ hE i sz n row e2.symm
      rw [h5] at e4; simp only [renOb, Option.some.injEq] at e4
      exact ⟨e3.trans (e5.trans e1), e4.symm, by rw [← e1]; exact hc⟩
    · obtain ⟨e1, e2⟩ := k.keep r (Heap.at_lt hr) hm
      obtain ⟨_, _, _, hi, _⟩ := @HR.fro G _ _ _ h r sz n row hr
      exact ⟨e1, e2.trans hr, cellsAt_congr (hold _ hi)⟩
  · intro r hl hr
    by_cases hm : r ∈ rs
    · obtain ⟨i, hi, hl, e1, e2, e3, e4⟩ := idx r hm
      rw [hr] at e2
      simp only [renOb, Option.some.injEq] at e2
      have := @Evo.dead G' _ _ _ _ _ _ hE i hl e2.symm
      rw [this] at e4; simp only [renOb, Option.some.injEq] at e4
      exact e4.symm
    · exact (k.keep r hl hm).2.trans hr

theorem Back.hr (k : Back f rs β H β1 H1 β2 Hf) (k0 : Sub f0 rs β H β0 H0) (h : @HR G β H W) (hG : ∀ b, G'.g b ↔ G.g b ∨ ∃ q, Live H q ∧ q ∉ rs ∧ β q = b) (hE : @Evo G' β0 H0 W β1 H1 W') (h1 : @HR G' β1 H1 W') : @HR G β2 Hf W' := by
  have hG1 : ∀ b, G.g b → G'.g b := fun b hb => (hG b).2 (.inl hb)
  have hG2 : ∀ q, Live H q → q ∉ rs → G'.g (β q) := fun q h1 h2 => (hG _).2 (.inr ⟨q, h1, h2, rfl⟩)
  have hren : Ren G' G f β1 H1 β2 Hf W' := k.ren hG1 hG2
  have hev := k.evo k0 h hG hE
  have hlive : ∀ q, Live H q → q ∉ rs → W'[β q]? = W[β q]? := fun q h1 h2 => @Evo.gh G' _ _ _ _ _ _ hE _ (hG2 q h1 h2) (@HR.lt G _ _ _ h _ h1)
  refine @HR.mk G _ _ _ ?_ ?_ ?_ ?_ ?_
  · intro q q' hq hq' e
    rcases k.come_live hq with ⟨_, a2, a3, a4⟩ | ⟨p, a1, a2, a3⟩ <;> rcases k.come_live hq' with ⟨_, b2, b3, b4⟩ | ⟨p', b1, b2, b3⟩
    · exact @HR.inj G _ _ _ h q q' a3 b3 (by rw [← a4, ← b4, e])
    · exact absurd (b3.symm.trans (e.symm.trans a4)) ((@HR.gh G' _ _ _ h1 _ (hG2 q a3 a2)).2 p' b2)
    · exact absurd (a3.symm.trans (e.trans b4)) ((@HR.gh G' _ _ _ h1 _ (hG2 q' b3 b2)).2 p a2)
    · have := @HR.inj G' _ _ _ h1 p p' a2 b2 (by rw [← a3, ← b3, e])
      subst this
      rw [a1] at b1; exact Option.some.inj b1
  · intro b hb
    refine ⟨Nat.lt_of_lt_of_le (@HR.gh G _ _ _ h b hb).1 (@Evo.size G' _ _ _ _ _ _ hE), fun q hq => ?_⟩
    rcases k.come_live hq with ⟨_, a2, a3, a4⟩ | ⟨p, a1, a2, a3⟩
    · rw [a4]; exact (@HR.gh G _ _ _ h b hb).2 q a3
    · rw [a3]; exact (@HR.gh G' _ _ _ h1 b (hG1 b hb)).2 p a2
  · intro q as_ hq
    rcases k.come_at hq with ⟨_, a2, a3, a4⟩ | ⟨p, o0, a1, a2, a3, a4⟩
    · obtain ⟨vs, e, w1, w2, w3, w4⟩ := @HR.box G _ _ _ h q as_ a3
      exact ⟨vs, e, by rw [a4, hlive q (.inl ⟨_, a3⟩) a2]; exact w1, w2, w3, fun j hj => @R.stays G _ _ _ _ _ _ hev _ _ (w4 j hj)⟩
    · obtain ⟨cs, rfl, hr⟩ := renOb_box a3
      obtain ⟨vs, e, w1, w2, w3, w4⟩ := @HR.box G' _ _ _ h1 p cs a2
      obtain ⟨l1, l2⟩ := renL_get hr
      exact ⟨vs, e, by rw [a4]; exact w1, by omega, renL_leaf hr w3, fun j hj => R.ren hren (w4 j (by omega)) (l2 j (by omega))⟩
  · intro q sz n row hq
    rcases k.come_at hq with ⟨_, a2, a3, a4⟩ | ⟨p, o0, a1, a2, a3, a4⟩
    · obtain ⟨vs, e, fz, w1, w2, w3, w4, w5⟩ := @HR.arr G _ _ _ h q sz n row a3
      exact ⟨vs, e, fz, by rw [a4, hlive q (.inr ⟨_, _, _, a3⟩) a2]; exact w1, w2, w3, w4, fun i j hi hj => @R.stays G _ _ _ _ _ _ hev _ _ (w5 i j hi hj)⟩
    · have := renOb_arr a3; subst this
      obtain ⟨vs, e, fz, w1, w2, w3, w4, w5⟩ := @HR.arr G' _ _ _ h1 p sz n row a2
      exact ⟨vs, e, fz, by rw [a4]; exact w1, w2, w3, w4, fun i j hi hj => R.mono hren.imm (pureL_iff.1 (w4 i hi).2.2 _ (getD_mem (by rw [(w4 i hi).1]; exact hj))) (w5 i j hi hj)⟩
  · intro q sz n row hq
    rcases k.come_at hq with ⟨_, a2, a3, a4⟩ | ⟨p, o0, a1, a2, a3, a4⟩
    · obtain ⟨vs, e, fz, w0, w1, w2, w4, w5⟩ := @HR.fro G _ _ _ h q sz n row a3
      obtain ⟨i1, i2⟩ := @Evo.imm G _ _ _ _ _ _ hev _ w0
      exact ⟨vs, e, fz, by rw [a4]; exact i2, by rw [a4, i1]; exact w1, w2, w4, fun i j hi hj => @R.stays G _ _ _ _ _ _ hev _ _ (w5 i j hi hj)⟩
    · have := renOb_fro a3; subst this
      obtain ⟨vs, e, fz, w0, w1, w2, w4, w5⟩ := @HR.fro G' _ _ _ h1 p sz n row a2
      exact ⟨vs, e, fz, by rw [a4]; exact hren.imm _ w0, by rw [a4]; exact w1, w2, w4, fun i j hi hj => R.mono hren.imm (pureL_iff.1 (w4 i hi).2.2 _ (getD_mem (by rw [(w4 i hi).1]; exact hj))) (w5 i j hi hj)⟩
end

/-! ### sealing -/
section
variable {G : Gh} {β : Nat → Nat} {H : Heap} {W : Array Obj}
theorem set_self {r : Nat} : H.set r (H.at r) = H := by
  apply List.ext_getElem?
  intro i
  by_cases h : i = r
  · subst h
    by_cases hl : i < H.length
    · rw [List.getElem?_set_self hl]
      unfold Heap.at
      rw [List.getD_eq_getElem?_getD, List.getElem?_eq_getElem hl]; rfl
    · rw [List.getElem?_eq_none (by simp; omega), List.getElem?_eq_none (by omega)]
  · rw [List.getElem?_set_ne (Ne.symm h)]
theorem sealAll_ok : ∀ {rs : List Nat} {H : Heap}, HR β H W → HR β (sealAll H rs) W ∧ Evo β H W β (sealAll H rs) W ∧ (sealAll H rs).length = H.length ∧ ∀ q, Live (sealAll H rs) q → Live H q ∧ (q ∈ rs → ∃ cs, H.at q = some (.box cs))
  | [], H, h => ⟨h, Evo.refl _ _ _, rfl, fun q hq => ⟨hq, fun hm => by simp at hm⟩⟩
  | r :: rs, H, h => by
    have step : ∃ H2 : Heap, H.set r (sealOb (H.at r)) = H2 ∧ HR β H2 W ∧ Evo β H W β H2 W ∧ H2.length = H.length ∧ ∀ q, Live H2 q → Live H q ∧ (q = r → ∃ cs, H.at q = some (.box cs)) ∧ (∀ cs, H2.at q = some (.box cs) → H.at q = some (.box cs)) := by
      cases ho : H.at r with
      | none =>
        refine ⟨H, by simp only [sealOb]; rw [← ho]; exact set_self, h, Evo.refl _ _ _, rfl, fun q hq => ⟨hq, ?_, fun _ h => h⟩⟩
        rintro rfl
        rcases hq with ⟨_, hq⟩ | ⟨_, _, _, hq⟩ <;> rw [ho] at hq <;> cases hq
      | some o =>
        cases o with
        | box cs => exact ⟨H, by simp only [sealOb]; rw [← ho]; exact set_self, h, Evo.refl _ _ _, rfl, fun q hq => ⟨hq, fun e => by subst e; exact ⟨cs, ho⟩, fun _ h => h⟩⟩
        | fro sz n row =>
          refine ⟨H, by simp only [sealOb]; rw [← ho]; exact set_self, h, Evo.refl _ _ _, rfl, fun q hq => ⟨hq, ?_, fun _ h => h⟩⟩
          rintro rfl
          rcases hq with ⟨_, hq⟩ | ⟨_, _, _, hq⟩ <;> rw [ho] at hq <;> cases hq
        | arr sz n row =>
          refine ⟨_, rfl, HR.close h ho, Evo.close ho, by simp [sealOb], fun q hq => ?_⟩
          obtain ⟨h1, h2⟩ := live_set_fro hq
          refine ⟨h2, fun e => absurd e h1, fun cs hcs => ?_⟩
          simp only [sealOb] at hcs
          rwa [at_set_ne h1] at hcs
    obtain ⟨H2, e, s1, s2, s3, s4⟩ := step
    obtain ⟨i1, i2, i3, i4⟩ := sealAll_ok (rs := rs) s1
    simp only [sealAll, e]
    refine ⟨i1, s2.trans i2, i3.trans s3, fun q hq => ?_⟩
    obtain ⟨j1, j2⟩ := i4 q hq
    obtain ⟨k1, k2, k3⟩ := s4 q j1
    refine ⟨k1, fun hm => ?_⟩
    rcases List.mem_cons.1 hm with hm | hm
    · exact k2 hm
    · obtain ⟨cs, hcs⟩ := j2 hm
      exact ⟨cs, k3 cs hcs⟩
/-- memory that only grows -/
theorem grow_ok {W' : Array Obj} (h : HR β H W) (hs : W.size ≤ W'.size) (hw : ∀ b, b < W.size → W'[b]? = W[b]?) : HR β H W' ∧ Evo β H W β H W' := by
  have hE : Evo β H W β H W' := by
    refine ⟨hs, fun b _ hl => hw b hl, fun b hb => ⟨hw b hb.1, Nat.lt_of_lt_of_le hb.1 hs, hb.2⟩, Nat.le_refl _, fun r as_ hr => ⟨rfl, as_, hr⟩, fun r sz n row hr => .inr ⟨rfl, ⟨row, .inl hr⟩, cellsAt_congr (hw _ (h.lt (.inr ⟨_, _, _, hr⟩)))⟩, fun r sz n row hr => ?_, fun _ _ hr => hr⟩
    obtain ⟨_, _, _, hi, _⟩ := h.fro r sz n row hr
    exact ⟨rfl, hr, cellsAt_congr (hw _ hi.1)⟩
  refine ⟨⟨h.inj, fun b hb => ⟨Nat.lt_of_lt_of_le (h.gh b hb).1 hs, (h.gh b hb).2⟩, fun r as_ hr => ?_, fun r sz n row hr => ?_, fun r sz n row hr => ?_⟩, hE⟩
  · obtain ⟨vs, e, w1, w2, w3, w4⟩ := h.box r as_ hr
    exact ⟨vs, e, by rw [hw _ (some_lt w1)]; exact w1, w2, w3, fun j hj => (w4 j hj).stays hE⟩
  · obtain ⟨vs, e, fz, w1, w2, w3, w4, w5⟩ := h.arr r sz n row hr
    exact ⟨vs, e, fz, by rw [hw _ (some_lt w1)]; exact w1, w2, w3, w4, fun i j hi hj => (w5 i j hi hj).stays hE⟩
  · obtain ⟨vs, e, fz, w0, w1, w2, w4, w5⟩ := h.fro r sz n row hr
    exact ⟨vs, e, fz, (hE.imm _ w0).2, by rw [hw _ (some_lt w1)]; exact w1, w2, w4, fun i j hi hj => (w5 i j hi hj).stays hE⟩
end
end Go.Ev

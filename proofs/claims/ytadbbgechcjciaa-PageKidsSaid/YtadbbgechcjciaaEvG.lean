/- The reckoner's operations tell the truth, the twelfth: the builtins. No conditions. -/
import Derived.Test.YtadbbgechcjciaaEvF
set_option linter.unusedVariables false
set_option linter.unusedSimpArgs false
set_option linter.unusedSectionVars false
namespace Go.Ev
open Go
variable [Gh]

section
variable {ρ : Type} {P : Program} {o : Oper} {a : Act} {w : World} {Q : Exit → Act → World → Prop} {κ : AV → Heap → Option ρ} {x : ρ} {β : Nat → Nat} {H : Heap} {e : List (Option AV)} {c : Ctx}

theorem RR.cat {W : Array Obj} {sz n m : Nat} {old cells rest : Array Value} {row row' : Nat → List AV} (ho : old.size = n * sz) (hc : cells.size = m * sz) (h : RR β H W sz n old row) (h' : RR β H W sz m cells row') :
    RR β H W sz (n + m) (old ++ cells ++ rest) (catRow n row row') := by
  refine ⟨fun i hi => ?_, fun i j hi hj => ?_⟩
  · unfold catRow
    split
    · exact h.1 i ‹_›
    · exact h'.1 _ (by omega)
  · unfold catRow
    split
    · rename_i hlt
      have hin := row_in (sz := sz) hlt
      have : (old ++ cells ++ rest).getD (i * sz + j) undef = old.getD (i * sz + j) undef := by
        rw [Array.getD_eq_getD_getElem?, Array.getD_eq_getD_getElem?, Array.append_assoc, Array.getElem?_append_left (by omega)]
      rw [this]; exact h.2 i j hlt hj
    · rename_i hge
      have hin := row_in (i := i - n) (n := m) (sz := sz) (by omega)
      have hidx : i * sz + j = n * sz + ((i - n) * sz + j) := by
        have : i = n + (i - n) := by omega
        rw [this, Nat.add_mul, show n + (i - n) - n = i - n by omega]; omega
      have : (old ++ cells ++ rest).getD (i * sz + j) undef = cells.getD ((i - n) * sz + j) undef := by
        rw [Array.getD_eq_getD_getElem?, Array.getD_eq_getD_getElem?, Array.append_assoc, Array.getElem?_append_right (by omega), Array.getElem?_append_left (by omega), hidx, ho]
        congr 2; omega
      rw [this]; exact h'.2 _ j (by omega) hj

/-- where an append ends -/
def AEnd (κ : AV → Heap → Option ρ) (x : ρ) (β : Nat → Nat) (H : Heap) (w : World) (run : World → Result Value) : Prop :=
  ∃ cv av β' H' w', run w = .ok cv w' ∧ κ av H' = some x ∧ R β' H' w'.heap cv av ∧ HR β' H' w'.heap ∧ Evo β H w.heap β' H' w'.heap ∧ Same w w'

theorem append_fresh {st xt ty : TypeId} {et : Nat} {ey : Ty} (hR : HR β H w.heap) (hu : P.underlying st = some (.slice et)) (hT : TyOK P et ey) {base : Option Addr} {n cap m : Nat} {xv : Value} {cells : Array Value} (hA : App P w ey et xt xv m cells)
    {row' row : Nat → List AV} (hrr : RR β H w.heap ey.size m cells row') (hcap : cap = n) (hm : 0 < m) (hroom : roomOf (n + m) ey.bytes = true)
    {vf : Nat → Nat → Value} (hsome : 0 < n → base.isSome = true) (hcell : ∀ bb, base = some bb → ∀ i j, i < n → j < ey.size → w.cell? (bb.add (i * ey.size + j)) = some (vf i j))
    (hl : ∀ i, i < n → (row i).length = ey.size ∧ allLeaf (row i) = true ∧ pureL (row i) = true) (hv : ∀ i j, i < n → j < ey.size → R β H w.heap (vf i j) ((row i).getD j .und))
    {H0 : Heap} (hk : κ (.osl ey.size H.length 0 (n + m) false) (H ++ [some (.arr ey.size (n + m) (catRow n row row'))]) = some x) :
    AEnd κ x β H w (fun w => (Builtin.append_ #[st, xt] ty #[.slice base n cap, xv]).run P w) := by
  obtain ⟨r1, r2⟩ := roomOf_iff hroom
  let old : Array Value := ((List.range (n * ey.size)).map fun k => vf (k / ey.size) (k % ey.size)).toArray
  have hold : ∀ w' : World, w'.heap = w.heap → (Builtin.firstCells ey.size n (.slice base n cap)).run P w' = .ok old w' := by
    intro w' hw'
    cases base with
    | none =>
      have hn0 : n = 0 := by
        rcases Nat.eq_zero_or_pos n with h | h
        · exact h
        · have := hsome h; cases this
      subst hn0
      simp [Builtin.firstCells, old]
    | some bb => exact load_rows (hcell bb rfl) w' hw'
  have hold2 : RR β H w.heap ey.size n old row := ⟨hl, fun i j hi hj => by rw [flat_getD hi hj]; exact hv i j hi hj⟩
  obtain ⟨newCap, rest, h1, h2, h3⟩ := append_new (ty := ty) hu hT hA (base := base) (sLen := n) (sCap := cap) (old := old) (by omega) r1 r2 hold
  have hcat := RR.cat (rest := rest) (by simp [old]) hA.size hold2 hrr
  have hsize : (old ++ cells ++ rest).size = newCap * ey.size := by
    simp only [Array.size_append, hA.size, h2]
    have : old.size = n * ey.size := by simp [old]
    rw [this, ← Nat.add_mul, ← Nat.add_mul]
    congr 1; omega
  have hle : (n + m) * ey.size ≤ newCap * ey.size := Nat.mul_le_mul_right _ h1
  exact ⟨_, _, upd β H.length w.heap.size, _, _, h3, hk, arr_slice hR (Nat.le_refl _) h1 (fun h => by cases h) (by rw [hsize]; exact Nat.le_refl _), HR.new_arr hR _ et ey.size (n + m) _ (by rw [hsize]; exact hle) hcat.1 hcat.2, Evo.new hR _ _, ⟨rfl, rfl, rfl⟩⟩

theorem append_none {st xt ty : TypeId} {et : Nat} {ey : Ty} (hR : HR β H w.heap) (hu : P.underlying st = some (.slice et)) (hT : TyOK P et ey) {base : Option Addr} {n cap : Nat} {xv : Value} {cells : Array Value} (hA : App P w ey et xt xv 0 cells)
    (hcap : n ≤ cap) {av : AV} (hv : R β H w.heap (.slice base n cap) av) (hk : κ av H = some x) : AEnd κ x β H w (fun w => (Builtin.append_ #[st, xt] ty #[.slice base n cap, xv]).run P w) := by
  have hc0 : cells.toList = [] := by
    have := hA.size
    rw [Nat.zero_mul] at this
    simpa using this
  refine ⟨_, av, β, H, w, append_in hu hT hA (by omega) (w' := w) ?_, hk, hv, hR, Evo.refl _ _ _, Same.refl _⟩
  cases base with
  | none => rfl
  | some bb => simp only [hc0]; rfl

theorem appendE_ok {st xt ty : TypeId} {et : Nat} {ey : Ty} (hR : HR β H w.heap) (hu : P.underlying st = some (.slice et)) (hT : TyOK P et ey) {sv xv : Value} {y : AV} {m : Nat} {cells : Array Value} (hA : App P w ey et xt xv m cells)
    {row' : Nat → List AV} (hrr : RR β H w.heap ey.size m cells row') (hy : R β H w.heap sv y) (h : appendE ey.size ey.bytes H y m row' κ = some x) :
    AEnd κ x β H w (fun w => (Builtin.append_ #[st, xt] ty #[sv, xv]).run P w) := by
  cases y with
  | sl sx n row full =>
    simp only [appendE] at h
    obtain ⟨hsx, h1⟩ := ite_some h
    clear h
    obtain ⟨ad, cap, vf, rfl, hsome, hcell, hl, hv⟩ := src_cells hR hy (sz := sx) (n := n) (row := row) rfl (fun s => by simp)
    have hcap : n ≤ cap ∧ (full = true → cap = n) := by
      cases hy with
      | sl0 _ _ _ _ _ hf => exact ⟨Nat.zero_le _, hf⟩
      | sl _ _ _ _ _ _ _ _ _ _ _ _ _ hc hf _ _ _ => exact ⟨hc, hf⟩
    by_cases hm : m = 0
    · subst hm
      simp only [decide_true, cond_true] at h1
      exact append_none hR hu hT hA hcap.1 hy h1
    · simp only [hm, decide_false, cond_false] at h1
      obtain ⟨hb, h2⟩ := bif_some h1
      clear h1
      simp only [Bool.and_eq_true] at hb
      by_cases hn : n = 0
      · subst hn
        exact append_fresh (H0 := H) hR hu hT hA hrr (hcap.2 hb.1) (by omega) hb.2 (row := row) (vf := vf) hsome (fun bb _ i j hi => by omega) (fun i hi => by omega) (fun i j hi => by omega) h2
      · have hsz : sx = ey.size := hsx.resolve_right hn
        subst hsz
        exact append_fresh (H0 := H) hR hu hT hA hrr (hcap.2 hb.1) (by omega) hb.2 hsome hcell hl hv h2
  | osl sz' r off len full =>
    simp only [appendE] at h
    split at h
    case h_2 => cases h
    rename_i sx N row hH
    obtain ⟨hsx, h1⟩ := ite_some h
    clear h
    have hrow : rowsOf H r = some (sx, N, row) := by unfold rowsOf; rw [hH]
    obtain ⟨ad, cap, vf, rfl, hsome, hcell, hl, hv⟩ := src_cells hR hy (sz := sx) (n := len) (row := fun i => row (off + i)) (by simp only [srcOf, hrow]) (fun s => by simp)
    obtain ⟨e1, hn, hc, hf, ha, mm, hW, hs, hu'⟩ : sz' = sx ∧ off + len ≤ N ∧ len ≤ cap ∧ (full = true → cap = len) ∧ (0 < cap → ad = some ⟨β r, off * sx, none⟩) ∧ ∃ mm, cellsAt w.heap (β r) = some mm ∧ (off + cap) * sx ≤ mm ∧ (full = false → N ≤ off + cap) := by
      cases hy with
      | osl _ _ _ _ _ N' mm row2 _ _ ha hH' hW hn hc hf hs hu =>
        have hH2 : sz' = sx ∧ N' = N := by
          rcases hH' with h' | h' <;> rw [hH] at h' <;> cases h'
          exact ⟨rfl, rfl⟩
        obtain ⟨rfl, rfl⟩ := hH2
        exact ⟨rfl, hn, hc, hf, ha, mm, hW, hs, hu⟩
      | osld _ _ _ _ _ _ _ _ _ _ _ _ _ hd => rw [hH] at hd; cases hd
    subst e1
    by_cases hm : m = 0
    · subst hm
      simp only [decide_true, cond_true] at h1
      exact append_none hR hu hT hA hc hy h1
    · simp only [hm, decide_false, cond_false] at h1
      cases full with
      | true =>
        simp only [cond_true] at h1
        obtain ⟨hb, h2⟩ := bif_some h1
        subst hsx
        exact append_fresh (H0 := H) hR hu hT hA hrr (hf rfl) (by omega) hb hsome hcell hl hv h2
      | false =>
        simp only [cond_false] at h1
        have hu2 := hu' rfl
        obtain ⟨vs, et', fz, hw, hsz, hz, hrl, hrR⟩ := hR.arr r sz' N row hH
        have hmm : mm = vs.size := by rw [cellsAt_of hw] at hW; exact (Option.some.inj hW).symm
        -- in place: the cells that are laid behind
        have place : len + m ≤ cap → ∃ (cs' : Array Value) (w' : World), (Builtin.append_ #[st, xt] ty #[.slice ad len cap, xv]).run P w = .ok (.slice ad (len + m) cap) w' ∧ w'.heap[β r]? = some (.cells cs' et' fz) ∧ cs'.size = vs.size ∧
            (∀ k, k < vs.size → cs'.getD k undef = if (off + len) * sz' ≤ k ∧ k < (off + len) * sz' + m * sz' then cells.getD (k - (off + len) * sz') undef else vs.getD k undef) ∧ But (β r) w.heap w'.heap ∧ Same w w' := by
          intro hle
          have had := ha (by omega)
          have hcs : cells.size = m * sz' := by rw [hA.size, hsx]
          have hend : (off + len) * sz' + m * sz' ≤ vs.size := by
            rw [← Nat.add_mul, ← hmm]
            exact Nat.le_trans (Nat.mul_le_mul_right _ (by omega)) hs
          have hlen2 : (off + len) * sz' + cells.toList.length ≤ vs.size := by rw [Array.length_toList, hcs]; exact hend
          have hst := run_storeCells_cells (P := P) (β r) ((off + len) * sz') cells.toList 0 w (fun j hj => by
              rw [cell_of hw, getD_some (by simp at hj; omega)]; rfl)
            (fun j hj => by
              simp only [World.frozen?, hw]
              simp only [Array.length_toList] at hj
              by_cases hlt : fz.1 < fz.2
              · rw [if_pos hlt] at hz
                have : ¬ fz.1 ≤ (off + len) * sz' + 0 + j := by omega
                rw [decide_eq_false this]; rfl
              · have : ¬ (fz.1 ≤ (off + len) * sz' + 0 + j ∧ (off + len) * sz' + 0 + j < fz.2) := by omega
                simpa using this) hA.one
          simp only [Nat.add_zero] at hst
          obtain ⟨cs', c1, c2, c3, c4, c5, c6⟩ := setCells_heap cells.toList ((off + len) * sz') w vs hw hlen2
          refine ⟨cs', w.setCells (β r) ((off + len) * sz') cells.toList, append_in hu hT hA hle ?_, c1, c2, fun k hk => ?_, but_setCells (cs := vs) hw hlen2, c6⟩
          · rw [had]
            simp only [Addr.add_lit, ← hsx]
            rw [show off * sz' + len * sz' = (off + len) * sz' by rw [Nat.add_mul]]
            exact hst
          · rw [c3 k hk, Array.length_toList, hcs]
            simp [Array.getD_eq_getD_getElem?, List.getD_eq_getElem?_getD]
        by_cases hin : off + len + m ≤ N
        · simp only [hin, decide_true, cond_true] at h1
          obtain ⟨cs', w', hrun, hw', hcs', hval, hbut, hsame⟩ := place (by omega)
          have hrr' : RR β H w.heap sz' N cs' (fun i => if off + len ≤ i ∧ i < off + len + m then row' (i - (off + len)) else row i) := by
            refine ⟨fun i hi => ?_, fun i j hi hj => ?_⟩
            · simp only
              split
              · have := hrr.1 (i - (off + len)) (by omega)
                rw [← hsx] at this; exact this
              · exact hrl i hi
            · have hi2 := row_in (sz := sz') hi
              rw [hval _ (by omega)]
              simp only
              by_cases hr : off + len ≤ i ∧ i < off + len + m
              · rw [if_pos hr]
                have h3 := row_in (i := i - (off + len)) (n := m) (sz := sz') (by omega)
                have h4 : i * sz' + j = (off + len) * sz' + ((i - (off + len)) * sz' + j) := by
                  have : i = (off + len) + (i - (off + len)) := by omega
                  rw [this, Nat.add_mul, show off + len + (i - (off + len)) - (off + len) = i - (off + len) by omega]; omega
                rw [if_pos (by omega), h4, Nat.add_sub_cancel_left]
                have := hrr.2 (i - (off + len)) j (by omega) (by rw [← hsx]; exact hj)
                rw [← hsx] at this; exact this
              · rw [if_neg hr]
                have : ¬ ((off + len) * sz' ≤ i * sz' + j ∧ i * sz' + j < (off + len) * sz' + m * sz') := by
                  by_cases hlo : i < off + len
                  · have := row_in (sz := sz') hlo; omega
                  · have h5 : off + len + m ≤ i := by omega
                    have := Nat.mul_le_mul_right sz' h5
                    rw [Nat.add_mul] at this; omega
                rw [if_neg this]
                exact hrR i j hi hj
          rw [← hsx] at h1
          have hE := Evo.set_arr hR hH (fun i => if off + len ≤ i ∧ i < off + len + m then row' (i - (off + len)) else row i) hbut
          refine ⟨_, _, β, _, w', hrun, h1, ?_, HR.set_arr hR hH _ hbut cs' et' fz hw' (by omega) (by rw [hcs']; exact hz) hrr'.1 hrr'.2, hE, hsame⟩
          exact .osl r off (len + m) cap sz' N vs.size _ false ad ha (.inl (at_set_eq (Heap.at_lt hH))) (by rw [cellsAt_of hw', hcs']) (by omega) (by omega) (fun h => by cases h) (by rw [← hmm]; exact hs) (fun _ => hu2)
        · simp only [hin, decide_false, cond_false] at h1
          obtain ⟨hb, h2⟩ := bif_some h1
          simp only [Bool.and_eq_true, decide_eq_true_eq] at hb
          obtain ⟨rfl, rfl, hroom⟩ := hb
          rw [← hsx] at h2
          by_cases hle : len + m ≤ cap
          · obtain ⟨cs', w', hrun, hw', hcs', hval, hbut, hsame⟩ := place hle
            have hend : (len + m) * sz' ≤ vs.size := by
              rw [← hmm]; exact Nat.le_trans (Nat.mul_le_mul_right _ (by omega)) hs
            have hrr' : RR β H w.heap sz' (len + m) cs' (catRow len row row') := by
              refine ⟨fun i hi => ?_, fun i j hi hj => ?_⟩
              · unfold catRow
                split
                · exact hrl i ‹_›
                · have := hrr.1 (i - len) (by omega)
                  rw [← hsx] at this; exact this
              · have hi2 := row_in (sz := sz') hi
                rw [hval _ (by omega)]
                simp only [Nat.zero_add]
                unfold catRow
                by_cases hr : i < len
                · have := row_in (sz := sz') hr
                  rw [if_neg (by omega), if_pos hr]
                  exact hrR i j hr hj
                · have h3 := row_in (i := i - len) (n := m) (sz := sz') (by omega)
                  have h4 : i * sz' + j = len * sz' + ((i - len) * sz' + j) := by
                    have : i = len + (i - len) := by omega
                    rw [this, Nat.add_mul, show len + (i - len) - len = i - len by omega]; omega
                  rw [if_pos (by omega), if_neg hr, h4, Nat.add_sub_cancel_left]
                  have := hrr.2 (i - len) j (by omega) (by rw [← hsx]; exact hj)
                  rw [← hsx] at this; exact this
            refine ⟨_, _, upd β H.length (β r), _, w', hrun, h2, ?_, HR.regrow hR hH sz' (len + m) _ hbut cs' et' fz hw' (by omega) (by rw [hcs']; exact hz) hrr', Evo.regrow hR hH _ hbut, hsame⟩
            refine .osl H.length 0 (len + m) cap sz' (len + m) vs.size _ false ad (fun hp => by rw [upd_eq]; exact ha hp) (.inl at_regrow_new) (by rw [upd_eq, cellsAt_of hw', hcs']) (by omega) (by omega) (fun h => by cases h) (by rw [← hmm]; exact hs) (fun _ => by omega)
          · obtain ⟨r1, r2⟩ := roomOf_iff hroom
            let old : Array Value := ((List.range (len * ey.size)).map fun k => vf (k / ey.size) (k % ey.size)).toArray
            have hold : ∀ w' : World, w'.heap = w.heap → (Builtin.firstCells ey.size len (.slice ad len cap)).run P w' = .ok old w' := by
              intro w' hw'
              cases ad with
              | none =>
                have hn0 : len = 0 := by
                  rcases Nat.eq_zero_or_pos len with h | h
                  · exact h
                  · have := hsome h; cases this
                subst hn0
                simp [Builtin.firstCells, old]
              | some bb => exact load_rows (fun i j hi hj => by have := hcell bb rfl i j hi (by rw [hsx]; exact hj); rw [hsx] at this; exact this) w' hw'
            have hold2 : RR β H w.heap ey.size len old row := ⟨fun i hi => by have := hl i hi; rw [hsx] at this; simpa using this, fun i j hi hj => by
              rw [flat_getD hi hj]
              have := hv i j hi (by rw [hsx]; exact hj)
              simpa using this⟩
            obtain ⟨newCap, rest, h3, h4, h5⟩ := append_new (ty := ty) hu hT hA (base := ad) (sLen := len) (sCap := cap) (old := old) (by omega) r1 r2 hold
            have hcat := RR.cat (rest := rest) (by simp [old]) hA.size hold2 hrr
            have hsize : (old ++ cells ++ rest).size = newCap * ey.size := by
              simp only [Array.size_append, hA.size, h4]
              have : old.size = len * ey.size := by simp [old]
              rw [this, ← Nat.add_mul, ← Nat.add_mul]
              congr 1; omega
            have hle2 : (len + m) * ey.size ≤ newCap * ey.size := Nat.mul_le_mul_right _ h3
            have hKR := HR.kill hR hH
            have hKE := Evo.kill (β := β) (W := w.heap) hH
            have hlen3 : (H.set r none).length = H.length := set_len
            have hE2 := Evo.new hKR (.cells (old ++ cells ++ rest) et (0, 0)) (some (.arr ey.size (len + m) (catRow len row row')))
            have hR2 := HR.new_arr hKR (old ++ cells ++ rest) et ey.size (len + m) (catRow len row row') (by rw [hsize]; exact hle2) hcat.1 (fun i j hi hj => (hcat.2 i j hi hj).stays hKE)
            have hS := arr_slice (et := et) (sz := ey.size) (n := len + m) (N := len + m) (cap := newCap) (vs := old ++ cells ++ rest) (row := catRow len row row') (full := false) hKR (Nat.le_refl _) h3 (fun h => by cases h) (by rw [hsize]; exact Nat.le_refl _)
            rw [hlen3] at hE2 hR2 hS
            rw [hsx] at h2
            exact ⟨_, _, upd β H.length w.heap.size, _, _, h5, h2, hS, hR2, hKE.trans hE2, ⟨rfl, rfl, rfl⟩⟩
  | _ => cases h
end
end Go.Ev

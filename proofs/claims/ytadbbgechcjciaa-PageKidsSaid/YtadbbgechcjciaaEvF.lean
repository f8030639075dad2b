/- The reckoner's operations tell the truth, the eleventh: append and copy, as told. No conditions. -/
import Derived.Test.YtadbbgechcjciaaEvE
set_option linter.unusedVariables false
set_option linter.unusedSimpArgs false
set_option linter.unusedSectionVars false
namespace Go.Ev
open Go
variable [Gh]

theorem set_len {H : Heap} {r : Nat} {o : Option Ob} : (H.set r o).length = H.length := by simp

theorem live_regrow {H : Heap} {r : Nat} {o : Ob} {q : Nat} (h : Live (H.set r none ++ [some o]) q) : (q < H.length ∧ q ≠ r ∧ Live H q) ∨ q = H.length := by
  rcases live_app h with ⟨hl, h⟩ | h
  · rw [set_len] at hl
    obtain ⟨h1, h2⟩ := live_set_none h
    exact .inl ⟨hl, h1, h2⟩
  · rw [set_len] at h; exact .inr h
theorem at_regrow_lt {H : Heap} {r : Nat} {o : Ob} {q : Nat} (hl : q < H.length) (hq : q ≠ r) : Heap.at (H.set r none ++ [some o]) q = H.at q := by
  rw [at_app_lt (by rw [set_len]; exact hl), at_set_ne hq]
theorem at_regrow_r {H : Heap} {r : Nat} {o : Ob} (hl : r < H.length) : Heap.at (H.set r none ++ [some o]) r = none := by
  rw [at_app_lt (by rw [set_len]; exact hl), at_set_eq hl]
theorem at_regrow_new {H : Heap} {r : Nat} {o : Ob} : Heap.at (H.set r none ++ [some o]) H.length = some o := by
  have := at_app_eq (H := H.set r none) (o := some o)
  rwa [set_len] at this
theorem at_regrow {H : Heap} {r : Nat} {o x : Ob} {q : Nat} (h : Heap.at (H.set r none ++ [some o]) q = some x) : (q < H.length ∧ q ≠ r ∧ H.at q = some x) ∨ (q = H.length ∧ o = x) := by
  rcases at_app h with ⟨hl, h⟩ | ⟨hl, h⟩
  · rw [set_len] at hl
    rcases at_set h with ⟨_, hx⟩ | ⟨hne, h⟩
    · cases hx
    · exact .inl ⟨hl, hne, h⟩
  · rw [set_len] at hl; exact .inr ⟨hl, Option.some.inj h⟩

/-- a row goes on in its own block under a new number -/
theorem Evo.regrow {β : Nat → Nat} {H : Heap} {W W' : Array Obj} (h : HR β H W) {r sz n : Nat} {row : Nat → List AV} (hr : H.at r = some (.arr sz n row)) (o : Ob) (hb : But (β r) W W') :
    Evo β H W (upd β H.length (β r)) (H.set r none ++ [some o]) W' where
  size := by rw [hb.1]; exact Nat.le_refl _
  gh b hg _ := hb.2.1 b (Ne.symm ((h.gh b hg).2 r (.inr ⟨_, _, _, hr⟩)))
  imm b hi := by
    refine ⟨hb.2.1 b (Ne.symm (hi.2.1 r (.inr ⟨_, _, _, hr⟩))), by rw [hb.1]; exact hi.1, fun q hq => ?_, hi.2.2⟩
    rcases live_regrow hq with ⟨hl, _, hq⟩ | rfl
    · rw [upd_ne (by omega)]; exact hi.2.1 q hq
    · rw [upd_eq]; exact hi.2.1 r (.inr ⟨_, _, _, hr⟩)
  len := by simp
  box q bs hq := by
    have e : q ≠ r := by rintro rfl; rw [hr] at hq; cases hq
    have hl := Heap.at_lt hq
    exact ⟨upd_ne (by omega), bs, by rw [at_regrow_lt hl e]; exact hq⟩
  arr q sz' n' row2 hq := by
    have hl := Heap.at_lt hq
    by_cases e : q = r
    · subst e; exact .inl (at_regrow_r hl)
    · refine .inr ⟨upd_ne (by omega), ⟨row2, .inl (by rw [at_regrow_lt hl e]; exact hq)⟩, ?_⟩
      exact cellsAt_congr (hb.2.1 _ fun e' => e (h.inj q r (.inr ⟨_, _, _, hq⟩) (.inr ⟨_, _, _, hr⟩) e'))
  fro q sz' n' row2 hq := by
    have e : q ≠ r := by rintro rfl; rw [hr] at hq; cases hq
    have hl := Heap.at_lt hq
    obtain ⟨vs, e', fz, hi, _⟩ := h.fro q sz' n' row2 hq
    exact ⟨upd_ne (by omega), by rw [at_regrow_lt hl e]; exact hq, cellsAt_congr (hb.2.1 _ (Ne.symm (hi.2.1 r (.inr ⟨_, _, _, hr⟩))))⟩
  dead q hl hq := by
    have e : q ≠ r := by rintro rfl; rw [hr] at hq; cases hq
    rw [at_regrow_lt hl e]; exact hq

theorem HR.regrow {β : Nat → Nat} {H : Heap} {W W' : Array Obj} (h : HR β H W) {r sz n : Nat} {row : Nat → List AV} (hr : H.at r = some (.arr sz n row)) (sz' n' : Nat) (row' : Nat → List AV) (hb : But (β r) W W')
    (vs : Array Value) (e : TypeId) (fz : Nat × Nat) (hw : W'[β r]? = some (.cells vs e fz)) (hs : n' * sz' ≤ vs.size) (hz : vs.size ≤ fz.1 + (if fz.1 < fz.2 then 0 else vs.size))
    (hRR : RR β H W sz' n' vs row') : HR (upd β H.length (β r)) (H.set r none ++ [some (.arr sz' n' row')]) W' where
  inj q q' hq hq' e := by
    rcases live_regrow hq with ⟨hl, n1, hq⟩ | rfl <;> rcases live_regrow hq' with ⟨hl', n2, hq'⟩ | rfl
    · rw [upd_ne (by omega), upd_ne (by omega)] at e; exact h.inj q q' hq hq' e
    · rw [upd_ne (by omega), upd_eq] at e; exact absurd (h.inj q r hq (.inr ⟨_, _, _, hr⟩) e) n1
    · rw [upd_eq, upd_ne (by omega)] at e; exact absurd (h.inj q' r hq' (.inr ⟨_, _, _, hr⟩) e.symm) n2
    · rfl
  gh b hg := by
    obtain ⟨g1, g2⟩ := h.gh b hg
    refine ⟨by rw [hb.1]; exact g1, fun q hq => ?_⟩
    rcases live_regrow hq with ⟨hl, _, hq⟩ | rfl
    · rw [upd_ne (by omega)]; exact g2 q hq
    · rw [upd_eq]; exact g2 r (.inr ⟨_, _, _, hr⟩)
  box q bs hq := by
    rcases at_regrow hq with ⟨hl, ne, hq⟩ | ⟨rfl, hx⟩
    · obtain ⟨us, e', h1, h2, h3, h4⟩ := h.box q bs hq
      exact ⟨us, e', by rw [upd_ne (by omega), hb.2.1 _ fun e' => ne (h.inj q r (.inl ⟨_, hq⟩) (.inr ⟨_, _, _, hr⟩) e')]; exact h1, h2, h3, fun j hj => (h4 j hj).stays (Evo.regrow h hr _ hb)⟩
    · cases hx
  arr q sz2 n2 row2 hq := by
    rcases at_regrow hq with ⟨hl, ne, hq⟩ | ⟨rfl, hx⟩
    · obtain ⟨us, e', fz', h1, h2, h3, h4, h5⟩ := h.arr q sz2 n2 row2 hq
      exact ⟨us, e', fz', by rw [upd_ne (by omega), hb.2.1 _ fun e' => ne (h.inj q r (.inr ⟨_, _, _, hq⟩) (.inr ⟨_, _, _, hr⟩) e')]; exact h1, h2, h3, h4, fun i j hi hj => (h5 i j hi hj).stays (Evo.regrow h hr _ hb)⟩
    · cases hx
      exact ⟨vs, e, fz, by rw [upd_eq]; exact hw, hs, hz, hRR.1, fun i j hi hj => (hRR.2 i j hi hj).stays (Evo.regrow h hr _ hb)⟩
  fro q sz2 n2 row2 hq := by
    rcases at_regrow hq with ⟨hl, ne, hq⟩ | ⟨rfl, hx⟩
    · obtain ⟨us, e', fz', hi, h1, h2, h4, h5⟩ := h.fro q sz2 n2 row2 hq
      rw [upd_ne (by omega)]
      exact ⟨us, e', fz', ((Evo.regrow h hr (.arr sz' n' row') hb).imm _ hi).2, by rw [hb.2.1 _ (Ne.symm (hi.2.1 r (.inr ⟨_, _, _, hr⟩)))]; exact h1, h2, h4, fun i j hi hj => (h5 i j hi hj).stays (Evo.regrow h hr _ hb)⟩
    · cases hx

section
variable {ρ : Type} {P : Program} {o : Oper} {a : Act} {w : World} {Q : Exit → Act → World → Prop} {κ : Option AV → Heap → Option ρ} {x : ρ} {β : Nat → Nat} {H : Heap} {e : List (Option AV)} {c : Ctx}

theorem RR.stays {β' : Nat → Nat} {H' : Heap} {W W' : Array Obj} {sz n : Nat} {vs : Array Value} {row : Nat → List AV} (k : Evo β H W β' H' W') (h : RR β H W sz n vs row) : RR β' H' W' sz n vs row :=
  ⟨h.1, fun i j hi hj => (h.2 i j hi hj).stays k⟩
theorem RR_one {W : Array Obj} {sz n : Nat} {vs : Array Value} {row : Nat → List AV} (h : RR β H W sz n vs row) (hs : vs.size = n * sz) : ∀ v ∈ vs.toList, v.oneCell' = true := by
  intro v hv
  obtain ⟨k, hk, rfl⟩ := List.getElem_of_mem hv
  have hk' : k < n * sz := by simpa [hs] using hk
  have hsz : 0 < sz := by
    rcases Nat.eq_zero_or_pos sz with h0 | h0
    · subst h0; omega
    · exact h0
  have hdiv : k / sz < n := Nat.div_lt_of_lt_mul (by rw [Nat.mul_comm]; exact hk')
  have hmod : k % sz < sz := Nat.mod_lt _ hsz
  have hkk : k / sz * sz + k % sz = k := by rw [Nat.mul_comm]; exact Nat.div_add_mod k sz
  have hR := h.2 (k / sz) (k % sz) hdiv hmod
  rw [hkk] at hR
  obtain ⟨l1, l2, l3⟩ := h.1 _ hdiv
  have := (one_cell hR (allLeaf_getD l2 (by rw [l1]; exact hmod))).1
  have hk2 : k < vs.size := by simpa using hk
  rw [Array.getD_eq_getD_getElem?, Array.getElem?_eq_getElem hk2] at this
  simpa using this
theorem flat_getD {n sz : Nat} {vf : Nat → Nat → Value} {i j : Nat} (hi : i < n) (hj : j < sz) : (((List.range (n * sz)).map fun k => vf (k / sz) (k % sz)).toArray).getD (i * sz + j) undef = vf i j := by
  have hin := row_in (sz := sz) hi
  have e1 : (i * sz + j) / sz = i := by rw [Nat.mul_comm, Nat.mul_add_div (by omega)]; rw [Nat.div_eq_of_lt hj]; rfl
  have e2 : (i * sz + j) % sz = j := by rw [Nat.mul_comm, Nat.mul_add_mod]; exact Nat.mod_eq_of_lt hj
  rw [Array.getD_eq_getD_getElem?]
  simp [show i * sz + j < n * sz by omega, e1, e2]

theorem load_rows {ad : Addr} {n sz : Nat} {vf : Nat → Nat → Value} (h : ∀ i j, i < n → j < sz → w.cell? (ad.add (i * sz + j)) = some (vf i j)) :
    ∀ w' : World, w'.heap = w.heap → (loadCells ad (n * sz)).run P w' = .ok (((List.range (n * sz)).map fun k => vf (k / sz) (k % sz)).toArray) w' := by
  intro w' hw
  have := run_loadCells_list (P := P) (w := w') ad ((List.range (n * sz)).map fun k => vf (k / sz) (k % sz)) (fun k v hk => by
    by_cases hlt : k < n * sz
    · simp only [List.getElem?_map, List.getElem?_range hlt, Option.map_some, Option.some.injEq] at hk
      subst hk
      have hsz : 0 < sz := by
        rcases Nat.eq_zero_or_pos sz with h0 | h0
        · subst h0; omega
        · exact h0
      have hdiv : k / sz < n := Nat.div_lt_of_lt_mul (by rw [Nat.mul_comm]; exact hlt)
      have hmod : k % sz < sz := Nat.mod_lt _ hsz
      have hkk : k / sz * sz + k % sz = k := by rw [Nat.mul_comm]; exact Nat.div_add_mod k sz
      have hh := h (k / sz) (k % sz) hdiv hmod
      rw [hkk] at hh
      have hc : w'.cell? (ad.add k) = w.cell? (ad.add k) := by simp only [World.cell?, hw]
      rw [hc]; exact hh
    · rw [List.getElem?_eq_none (by simpa using hlt)] at hk; cases hk)
  simpa using this

/-- what comes behind, out of a slice or a text -/
theorem src_app (hC : CtxOK c P) (hR : HR β H w.heap) {et : Nat} {ey : Ty} {xt : Nat} {d : TypeDesc} (hxt : P.underlying xt = some d) (hd : ∀ k, d ≠ .int k) {u : AV} {v : Value} (hu : R β H w.heap v u)
    {sz m : Nat} {row : Nat → List AV} (h : srcOf H u = some (sz, m, row)) (hs : sz = ey.size ∨ m = 0) : ∃ cells, App P w ey et xt v m cells ∧ RR β H w.heap ey.size m cells row := by
  by_cases hstr : ∃ s, u = .str s
  · obtain ⟨s, rfl⟩ := hstr
    have := hu.inv_str; subst this
    simp only [srcOf, Option.some.injEq, Prod.mk.injEq] at h
    obtain ⟨rfl, rfl, rfl⟩ := h
    have hfull : s.extract 0 s.size = s := by simp
    have hsz : s.size = s.size * ey.size := by
      rcases hs with h1 | h1
      · rw [← h1]; omega
      · rw [h1]; omega
    refine ⟨s.data.map fun b => .int .u8 b.toNat, ⟨by simpa using hsz, fun v hv => ?_, .inl ⟨d, hxt, hd, rfl, fun w' _ => ?_⟩⟩, fun i hi => ?_, fun i j hi hj => ?_⟩
    · simp only [Array.toList_map, List.mem_map] at hv
      obtain ⟨b, _, rfl⟩ := hv; rfl
    · show Result.ok ((s.extract 0 s.size).data.map fun b => Value.int .u8 b.toNat) w' = _
      rw [hfull]
    · rcases hs with h1 | h1
      · exact ⟨h1, rfl, rfl⟩
      · omega
    · have h1 : ey.size = 1 := by rcases hs with h1 | h1 <;> omega
      rw [h1] at hj ⊢
      have hj0 : j = 0 := by omega
      subst hj0
      have hi' : i < s.data.size := hi
      simp only [Nat.mul_one, Nat.add_zero]
      have : (s.data.map fun b => Value.int .u8 b.toNat).getD i undef = .int .u8 ((s.data.getD i 0).toNat : Int) := by
        rw [Array.getD_eq_getD_getElem?, Array.getElem?_map, Array.getElem?_eq_getElem hi', Array.getD_eq_getD_getElem?, Array.getElem?_eq_getElem hi']; rfl
      rw [this]
      exact .int _ _
  · obtain ⟨ad, cap, vf, rfl, hsome, hcell, hl, hRr⟩ := src_cells hR hu h (fun s hs => hstr ⟨s, hs⟩)
    have hm : ∀ (hm0 : m ≠ 0), sz = ey.size := fun hm0 => hs.resolve_right hm0
    refine ⟨((List.range (m * ey.size)).map fun k => vf (k / ey.size) (k % ey.size)).toArray, ⟨by simp, ?_, .inl ⟨d, hxt, hd, rfl, fun w' hw' => ?_⟩⟩, ?_⟩
    · by_cases hm0 : m = 0
      · subst hm0; intro v hv; simp at hv
      · have := hm hm0; subst this
        refine RR_one (β := β) (H := H) (W := w.heap) (sz := ey.size) (n := m) (row := row) ⟨hl, fun i j hi hj => ?_⟩ (by simp)
        rw [flat_getD hi hj]; exact hRr i j hi hj
    · by_cases hm0 : m = 0
      · subst hm0
        cases ad with
        | none => simp [Builtin.firstCells]
        | some bb =>
          have := run_loadCells_list (P := P) (w := w') bb [] (fun j v hj => by simp at hj)
          simpa [Builtin.firstCells] using this
      · have := hm hm0; subst this
        obtain ⟨bb, rfl⟩ := Option.isSome_iff_exists.1 (hsome (by omega))
        exact load_rows (hcell bb rfl) w' hw'
    · by_cases hm0 : m = 0
      · subst hm0; exact ⟨fun i hi => by omega, fun i j hi => by omega⟩
      · have := hm hm0; subst this
        refine ⟨hl, fun i j hi hj => ?_⟩
        rw [flat_getD hi hj]; exact hRr i j hi hj

theorem zero_app (hC : CtxOK c P) {et : Nat} {ey : Ty} (hT : TyOK P et ey) {xt : Nat} {k kk : IntKind} (hxt : P.underlying xt = some (.int k)) {m : Nat} (h1 : m ≤ 70368744177664) (h2 : m * ey.bytes ≤ 70368744177664) (W : Array Obj) :
    ∃ cells, App P w ey et xt (.int kk (m : Int)) m cells ∧ RR β H W ey.size m cells (fun _ => ey.zero) := by
  obtain ⟨i, hi, hsz, hby, z, hz, hzs, hzR⟩ := hT.info
  have hz0 := zeros_rows (β := β) (H := H) hT (i := i) hzs hzR m W
  refine ⟨(Array.range (m * ey.size)).map (z.cells[· % z.cells.size]!), ⟨by simp, RR_one hz0 (by simp), .inr ⟨k, kk, hxt, rfl, h1, h2, i, z, hi, hz, ?_⟩⟩, hz0⟩
  by_cases h0 : m * ey.size = 0
  · rw [if_pos h0, h0]; simp
  · rw [if_neg h0, Builtin.zeroCells, hzs]
end
end Go.Ev

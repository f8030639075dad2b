/- The reckoner tells the truth: a call from outside. No conditions. -/
import Derived.Test.YtadbbgechcjciaaEvW
import Derived.Below
import Derived.SizedLaws
import Derived.ChangeSlices
import Derived.ChangeArms
import Derived.OpenShut
set_option linter.unusedVariables false
set_option linter.unusedSimpArgs false
set_option linter.unusedSectionVars false
namespace Go.Ev
open Go Go.RowKit Go.WideShapes Go.ChangeShapes

/-- no block is barred -/
@[instance_reducible] def free : Gh := ⟨fun _ => False⟩
/-- what lies in a row of cells, whatever the objects -/
def Cells (W : Array Obj) (cs : List Value) (as : List AV) : Prop := cs.length = as.length ∧ ∀ j, j < as.length → @R free (fun _ => 0) [] W (cs.getD j undef) (as.getD j .und)

theorem eval_calls {P : Program} {c : Ctx} (hC : CtxOK c P) (hM : CmpAll c P) (hF : FnAll c P) (hX : ExtAll c P) (hm : P.follows .mixedOrders = true) {k f : Nat} {as : List AV} {vs : Array Value} {W : World}
    (hA : Cells W.heap vs.toList as) (h : evalF c k f as [] (fun v _ => some v) = some (.bool true)) : Calls P f vs W fun e W' => e = .returned (.bool true) ∧ Below W.heap.size W W' := by
  rw [evalF_bind] at h
  obtain ⟨r, H1, hr, hk⟩ := on_some h
  cases hk
  have hnil : ∀ q, ¬ Live ([] : Heap) q := fun q hq => by
    rcases hq with ⟨_, hq⟩ | ⟨_, _, _, hq⟩ <;> simp [Heap.at] at hq
  have hR : @HR free (fun _ => 0) [] W.heap := by
    refine @HR.mk free _ _ _ (fun q q' hq => absurd hq (hnil q)) (fun b hb => hb.elim) (fun r as hr => ?_) (fun r sz n row hr => ?_) fun r sz n row hr => ?_
    all_goals simp [Heap.at] at hr
  have hAR : @AR free (fun _ => 0) [] W.heap vs as := by
    refine ⟨by simpa using hA.1, fun j hj => ?_⟩
    have := hA.2 j hj
    simpa [Array.getD_eq_getD_getElem?, List.getD_eq_getElem?_getD] using this
  refine Calls.mono ((eval1_ok hC hM hF hX hm k).run hr free _ vs W hR hAR) ?_
  rintro en w' ⟨v, av, β1, H3, rfl, hk, q1, q2, q3, q4⟩
  cases hk
  have hv := @R.inv_bool free _ _ _ _ _ q1
  subst hv
  refine ⟨rfl, q4.1, q4.2.1, q4.2.2, @Evo.size free _ _ _ _ _ _ q3, fun b hb => ?_⟩
  exact (@Evo.imm free _ _ _ _ _ _ q3 b ⟨hb, fun q hq => absurd hq (hnil q), fun h => h⟩).1

/-! ### what the arguments hold -/
theorem Cells.nil {W : Array Obj} : Cells W [] [] := ⟨rfl, fun j hj => by simp at hj⟩
theorem Cells.append {W : Array Obj} {cs ds : List Value} {as bs : List AV} (h : Cells W cs as) (k : Cells W ds bs) : Cells W (cs ++ ds) (as ++ bs) := by
  refine ⟨by simp [h.1, k.1], fun j hj => ?_⟩
  rw [List.getD_eq_getElem?_getD, List.getD_eq_getElem?_getD]
  by_cases hl : j < as.length
  · rw [List.getElem?_append_left (by rw [h.1]; exact hl), List.getElem?_append_left hl]
    have := h.2 j hl
    rwa [List.getD_eq_getElem?_getD, List.getD_eq_getElem?_getD] at this
  · rw [List.getElem?_append_right (by rw [h.1]; omega), List.getElem?_append_right (by omega), h.1]
    have := k.2 (j - as.length) (by simp at hj; omega)
    rwa [List.getD_eq_getElem?_getD, List.getD_eq_getElem?_getD] at this
theorem Cells.one {W : Array Obj} {v : Value} {a : AV} (h : @R free (fun _ => 0) [] W v a) : Cells W [v] [a] :=
  ⟨rfl, fun j hj => by
    have : j = 0 := by simpa using hj
    subst this; exact h⟩
/-- rows of a list -/
def rowC {α : Type} [Inhabited α] (f : α → List AV) (l : List α) : Nat → List AV := fun i => f (l.getD i default)
/-- a way to write down things as cells -/
structure Plain {α : Type} (sz : Nat) (f : α → List AV) : Prop where
  len : ∀ a, (f a).length = sz
  leaf : ∀ a, allLeaf (f a) = true
  pure : ∀ a, pureL (f a) = true
/-- Where a value of type t is read as data, its cells are those of some a; S: what is known of it besides. -/
def Opens {α : Type} (P : Program) (t : TypeId) (sz : Nat) (f : α → List AV) (S : α → Prop) : Prop :=
  P.cellsOf t = sz ∧ Plain sz f ∧ ∀ (H : Type) (enc : TypeId × Value → H) (w : World) (fuel : Nat) (cs : List Value) (x : DataW H × List MemPlace),
    DataW.trod enc P w 0 (fun _ => true) true fuel t cs = some x → (∀ n ∈ x.1.weights P t, n ≤ reachBytes) → ∃ a : α, Cells w.heap cs (f a) ∧ S a
section
variable {P : Program} {t : TypeId}
theorem Opens.str (hu : P.underlying t = some .string) (hc : P.cellsOf t = 1) : Opens P t 1 (fun s : ByteArray => [.str s]) (fun s => s.size ≤ 140737488351232) := by
  refine ⟨hc, ⟨fun _ => rfl, fun _ => rfl, fun _ => rfl⟩, fun H enc w fuel cs x h hw => ?_⟩
  obtain ⟨s, rfl, rfl, _⟩ := DataW.trod_string hu h
  refine ⟨s, Cells.one (@R.str free _ _ _ s), ?_⟩
  have := hw s.data.toList.length (by simp [DataW.weights])
  rw [Array.length_toList] at this
  exact this
theorem Opens.int {k : IntKind} (hu : P.underlying t = some (.int k)) (hc : P.cellsOf t = 1) : Opens P t 1 (fun n : Int => [.int k n]) (fun n => (Lit.int k n).wf = true) := by
  refine ⟨hc, ⟨fun _ => rfl, fun _ => rfl, fun _ => rfl⟩, fun H enc w fuel cs x h hw => ?_⟩
  obtain ⟨n, rfl, _, hwf⟩ := DataW.trod_int hu h
  exact ⟨n, Cells.one (@R.int free _ _ _ k n), hwf⟩
theorem Opens.bool (hu : P.underlying t = some .bool) (hc : P.cellsOf t = 1) : Opens P t 1 (fun b : Bool => [.bool b]) (fun _ => True) := by
  refine ⟨hc, ⟨fun _ => rfl, fun _ => rfl, fun _ => rfl⟩, fun H enc w fuel cs x h hw => ?_⟩
  obtain ⟨b, rfl, _⟩ := DataW.trod_bool hu h
  exact ⟨b, Cells.one (@R.bool free _ _ _ b), trivial⟩
theorem weightsAll_mem {H : Type} {P : Program} {e : TypeId} : ∀ {ds : List (DataW H)} {d : DataW H}, d ∈ ds → ∀ n ∈ d.weights P e, n ∈ DataW.weightsAll P e ds
  | d0 :: ds, d, hd, n, hn => by
    simp only [DataW.weightsAll, List.mem_append]
    rcases List.mem_cons.1 hd with rfl | h
    · exact .inl hn
    · exact .inr (weightsAll_mem h n hn)
  | [], _, hd, _, _ => by simp at hd
theorem cell_block {w : World} {a : Addr} {v : Value} (h : w.cell? a = some v) : a.spot = none ∧ ∃ c e fz, w.heap[a.block]? = some (.cells c e fz) := by
  unfold World.cell? at h
  split at h
  · rename_i c e fz hh
    split at h
    · cases h
    · rename_i hs
      exact ⟨by simpa using hs, c, e, fz, hh⟩
  · cases h

theorem Opens.slice {α : Type} [Inhabited α] {e : TypeId} {sz B : Nat} {f : α → List AV} {S : α → Prop} (hu : P.underlying t = some (.slice e)) (hc : P.cellsOf t = 1) (hB : P.bytesOf e = B) (hz : 0 < sz) (he : Opens P e sz f S) :
    Opens P t 1 (fun xs : List α => [.sl sz xs.length (rowC f xs) false]) (fun xs => xs.length * B ≤ 140737488351232 ∧ ∀ x ∈ xs, S x) := by
  obtain ⟨hsz, hpl, he⟩ := he
  refine ⟨hc, ⟨fun _ => rfl, fun _ => rfl, fun _ => rfl⟩, fun H enc w fuel cs x h hw => ?_⟩
  rcases DataW.trod_slice hu h with ⟨rfl, _⟩ | ⟨a, len, cap, elems, rest, n, _, rfl, rfl, _, hl, hm, hlen, hel, _, _⟩
  · exact ⟨[], Cells.one (@R.sl0 free _ _ _ none 0 sz _ false (fun h => by cases h)), by simp, fun _ h => by simp at h⟩
  · have hall : ∀ i, i < len → ∃ (c : List Value) (b : α), w.cells? 0 (a.add (i * P.cellsOf e)) (P.cellsOf e) = some c ∧ Cells w.heap c (f b) ∧ S b := by
      intro i hi
      have hi' := hel i hi
      have hlt : i < elems.length := by omega
      rw [List.getElem?_eq_getElem hlt] at hi'
      obtain ⟨c, hc1, hc2⟩ := Option.bind_eq_some_iff.1 hi'
      obtain ⟨b, hb, hS⟩ := he H enc w n c _ hc2 (fun m hm => hw m (by
        simp only [DataW.weights, hu, List.mem_cons, List.mem_append]
        exact .inr (.inl (weightsAll_mem (List.mem_map.2 ⟨elems[i], List.getElem_mem hlt, rfl⟩) m hm))))
      exact ⟨c, b, hc1, hb, hS⟩
    have hlist : ∀ m, m ≤ len → ∃ xs : List α, xs.length = m ∧ (∀ x ∈ xs, S x) ∧ ∀ j p, xs[j]? = some p → ∃ c, w.cells? 0 (a.add (j * P.cellsOf e)) (P.cellsOf e) = some c ∧ Cells w.heap c (f p) := by
      intro m
      induction m with
      | zero => exact fun _ => ⟨[], rfl, fun _ h => by simp at h, fun j p h => by simp at h⟩
      | succ m ih =>
        intro hm
        obtain ⟨xs, h1, h2, h3⟩ := ih (by omega)
        obtain ⟨c, b, hc1, hb, hS⟩ := hall m (by omega)
        refine ⟨xs ++ [b], by simp [h1], fun x hx => ?_, fun j p hj => ?_⟩
        · rcases List.mem_append.1 hx with hx | hx
          · exact h2 x hx
          · rw [List.mem_singleton.1 hx]; exact hS
        · rcases Nat.lt_or_ge j xs.length with hj' | hj'
          · rw [List.getElem?_append_left hj'] at hj
            exact h3 j p hj
          · have : j = xs.length := by
              have := (List.getElem?_eq_some_iff.1 hj).1
              simp at this; omega
            subst this
            have : b = p := by simpa using hj
            subst this
            rw [h1]
            exact ⟨c, hc1, hb⟩
    obtain ⟨xs, h1, h2, h3⟩ := hlist len (Nat.le_refl _)
    have hbytes : len * B ≤ 140737488351232 := by
      have z := hw ((elems.length + rest.length) * P.bytesOf e) (by simp [DataW.weights, hu])
      rw [hB, hlen] at z
      exact Nat.le_trans (Nat.mul_le_mul_right _ (by omega)) z
    refine ⟨xs, ?_, by rw [h1]; exact hbytes, h2⟩
    subst h1
    by_cases h0 : xs.length = 0
    · show Cells w.heap [.slice (some a) xs.length cap] [.sl sz xs.length (rowC f xs) false]
      rw [h0]; exact Cells.one (@R.sl0 free _ _ _ _ _ sz _ false (fun h => by cases h))
    -- every cell
    have hcell : ∀ i j, i < xs.length → j < sz → ∃ u, w.cell? ((a.add (i * sz)).add j) = some u ∧ @R free (fun _ => 0) [] w.heap u ((rowC f xs i).getD j .und) := by
      intro i j hi hj
      obtain ⟨c, hc1, hc2⟩ := h3 i xs[i] (List.getElem?_eq_getElem hi)
      obtain ⟨_, hcl, hcell⟩ := World.cells?_some hc1
      rw [hsz] at hcl hcell
      have hjc : j < c.length := by omega
      refine ⟨c[j], by rw [hcell j hj, List.getElem?_eq_getElem hjc], ?_⟩
      have := hc2.2 j (by rw [← hc2.1]; exact hjc)
      rw [List.getD_eq_getElem?_getD, List.getElem?_eq_getElem hjc] at this
      have e2 : rowC f xs i = f xs[i] := by
        simp only [rowC, List.getD_eq_getElem?_getD, List.getElem?_eq_getElem hi, Option.getD_some]
      rw [e2]; exact this
    obtain ⟨u0, hu0, _⟩ := hcell 0 0 (by omega) hz
    obtain ⟨hspot, cc, et, fz, hblk⟩ := cell_block hu0
    have hadd : ∀ i j, (a.add i).add j = ⟨a.block, a.off + i + j, none⟩ := by
      have hs : a.spot = none := by
        unfold Addr.add at hspot
        simpa using hspot
      intro i j
      unfold Addr.add
      by_cases h1 : i = 0 <;> by_cases h2 : j = 0 <;> simp [h1, h2, hs, Nat.add_assoc] <;> (cases a; simp_all)
    have ha : a = ⟨a.block, a.off, none⟩ := by
      have := hadd 0 0
      simpa [Addr.add] using this
    rw [hadd] at hblk
    simp only at hblk
    rw [ha]
    refine Cells.one (@R.sl free _ _ _ a.block a.off xs.length cap sz (rowC f xs) false cc et fz (fun i j => cc.getD (a.off + i * sz + j) undef) ⟨some_lt hblk, fun q hq => ?_, fun h => h⟩ hblk hl (fun h => by cases h) (fun i hi => ⟨hpl.len _, hpl.leaf _, hpl.pure _⟩) (fun i j hi hj => ?_) fun i j hi hj => ?_)
    · rcases hq with ⟨_, hq⟩ | ⟨_, _, _, hq⟩ <;> simp [Heap.at] at hq
    · obtain ⟨u, hu1, _⟩ := hcell i j hi hj
      rw [hadd] at hu1
      simp only [World.cell?, hblk] at hu1
      have hu1 : cc[a.off + i * sz + j]? = some u := by simpa using hu1
      rw [hu1, Array.getD_eq_getD_getElem?, hu1]; rfl
    · obtain ⟨u, hu1, hu2⟩ := hcell i j hi hj
      rw [hadd] at hu1
      simp only [World.cell?, hblk] at hu1
      have hu1 : cc[a.off + i * sz + j]? = some u := by simpa using hu1
      rw [Array.getD_eq_getD_getElem?, hu1]; exact hu2
end

/-! ### structs -/
theorem allLeaf_app {a b : List AV} (h : allLeaf a = true) (k : allLeaf b = true) : allLeaf (a ++ b) = true := by
  rw [@allLeaf_iff free] at *
  intro x hx
  rcases List.mem_append.1 hx with hx | hx
  · exact h x hx
  · exact k x hx
theorem pureL_app {a b : List AV} (h : pureL a = true) (k : pureL b = true) : pureL (a ++ b) = true := by
  rw [@pureL_iff free] at *
  intro x hx
  rcases List.mem_append.1 hx with hx | hx
  · exact h x hx
  · exact k x hx
def OpensF {α : Type} (P : Program) (fs : List Field) (off sz : Nat) (f : α → List AV) (S : α → Prop) : Prop :=
  Plain sz f ∧ ∀ (H : Type) (enc : TypeId × Value → H) (w : World) (n : Nat) (cs : List Value) (xs : List (DataW H × List MemPlace)), xs.length = fs.length →
    (∀ (i : Nat) (f : Field), fs[i]? = some f → DataW.trod enc P w 0 (fun _ => true) true n f.type ((cs.drop f.offset).take (P.cellsOf f.type)) = xs[i]?) →
    (∀ m ∈ DataW.weightsEach P (fs.map (·.type)) (xs.map (·.1)), m ≤ reachBytes) → cs.length = off + sz → ∃ a : α, Cells w.heap (cs.drop off) (f a) ∧ S a
theorem OpensF.one {α : Type} {P : Program} {fd : Field} {off sz : Nat} {f : α → List AV} {S : α → Prop} (ho : fd.offset = off) (hf : Opens P fd.type sz f S) : OpensF P [fd] off sz f S := by
  obtain ⟨hc, hp, hf⟩ := hf
  refine ⟨hp, fun H enc w n cs xs hl ht hw hlen => ?_⟩
  match xs, hl with
  | [x], _ =>
    have h0 := ht 0 fd rfl
    simp only [List.getElem?_cons_zero] at h0
    obtain ⟨a, ha, hS⟩ := hf H enc w n _ x h0 (fun m hm => hw m (by simpa [DataW.weightsEach] using hm))
    refine ⟨a, ?_, hS⟩
    rw [ho, hc, List.take_of_length_le (by rw [List.length_drop]; omega)] at ha
    exact ha
theorem OpensF.cons {α β : Type} {P : Program} {fd : Field} {fs : List Field} {off sz off' sz' : Nat} {f : α → List AV} {g : β → List AV} {S : α → Prop} {S' : β → Prop} (ho : fd.offset = off) (hf : Opens P fd.type sz f S)
    (hoff : off' = off + sz) (hr : OpensF P fs off' sz' g S') : OpensF P (fd :: fs) off (sz + sz') (fun x : α × β => f x.1 ++ g x.2) (fun x => S x.1 ∧ S' x.2) := by
  subst hoff
  obtain ⟨hc, hp, hf⟩ := hf
  obtain ⟨hp', hr⟩ := hr
  refine ⟨⟨fun a => by rw [List.length_append, hp.len, hp'.len], fun a => allLeaf_app (hp.leaf _) (hp'.leaf _), fun a => pureL_app (hp.pure _) (hp'.pure _)⟩, fun H enc w n cs xs hl ht hw hlen => ?_⟩
  match xs, hl with
  | x :: xs, hl =>
    have h0 := ht 0 fd rfl
    simp only [List.getElem?_cons_zero] at h0
    obtain ⟨a, ha, hS⟩ := hf H enc w n _ x h0 (fun m hm => hw m (by simp only [List.map_cons, DataW.weightsEach, List.mem_append]; exact .inl hm))
    have hlen' : cs.length = off + sz + sz' := by omega
    obtain ⟨b, hb, hS'⟩ := hr H enc w n cs xs (by simpa using hl) (fun i q hg => by have := ht (i + 1) q (by simpa using hg); simpa using this)
      (fun m hm => hw m (by simp only [List.map_cons, DataW.weightsEach, List.mem_append]; exact .inr hm)) hlen'
    refine ⟨(a, b), ?_, hS, hS'⟩
    have := Cells.append ha hb
    rwa [ho, hc, ← List.drop_drop, List.take_append_drop] at this
theorem Opens.struct {α : Type} {P : Program} {t sz : Nat} {fs : Array Field} {f : α → List AV} {S : α → Prop} (hu : P.underlying t = some (.struct fs)) (hc : P.cellsOf t = sz) (hF : OpensF P fs.toList 0 sz f S) : Opens P t sz f S := by
  obtain ⟨hp, hF⟩ := hF
  refine ⟨hc, hp, fun H enc w fuel cs x h hw => ?_⟩
  obtain ⟨xs, n, _, rfl, hl, hn, hf⟩ := DataW.trod_struct hu h
  obtain ⟨a, ha, hS⟩ := hF H enc w n cs xs (by simpa using hn) (fun i fl hi => hf i fl (by simpa using hi)) (fun m hm => hw m (by simp only [DataW.weights, hu]; exact hm)) (by rw [hl, hc]; omega)
  exact ⟨a, by simpa using ha, hS⟩

/-- One argument of a law, opened. -/
theorem opened {α H : Type} {enc : TypeId × Value → H} {P : Program} {t sz : Nat} {f : α → List AV} {S : α → Prop} {w : World} {v : Value} {x : DataW H} {ps : List MemPlace} {ts : List TypeId} {ds : List (DataW H)} {j : Nat} (ho : Opens P t sz f S)
    (hsz : (DataW.weightsEach P ts ds).all (· ≤ reachBytes) = true) (ht : ts[j]? = some t) (hd : ds[j]? = some x) (h : DataW.Trod enc P w 0 (fun _ => true) true t v x ps) :
    ∃ a : α, Cells w.heap v.cells.toList (f a) ∧ S a := by
  obtain ⟨fuel, hf⟩ := h
  exact ho.2.2 H enc w fuel _ _ hf (fun n hn => by
    have := List.all_eq_true.1 hsz n (DataW.weights_mem_each ht hd n hn)
    simpa using this)
theorem arg_agg {P : Program} {t : TypeId} {fs : Array Field} {w w1 : World} {r : Reach} {b sz : Nat} {v : Value} {α : Type} {f : α → List AV} {a : α} (hu : P.underlying t = some (.struct fs)) (hv : Value.okWide P w1 r b t v)
    (hp : Plain sz f) (h : Cells w.heap v.cells.toList (f a)) : Cells w.heap [v] [.agg (f a)] := by
  obtain ⟨cs, rfl, _⟩ := okWide_struct hu hv
  refine Cells.one (@R.agg free _ _ _ cs (f a) (by simpa [Value.cells] using h.1) (hp.leaf a) fun j hj => ?_)
  have := h.2 j hj
  simpa [Value.cells, Array.getD_eq_getD_getElem?, List.getD_eq_getElem?_getD] using this
theorem arg_slice {P : Program} {t e : TypeId} {w w1 : World} {r : Reach} {b : Nat} {v : Value} {as : List AV} (hu : P.underlying t = some (.slice e)) (hv : Value.okWide P w1 r b t v) (h : Cells w.heap v.cells.toList as) : Cells w.heap [v] as := by
  obtain ⟨a, n, c, rfl⟩ := okWide_slice hu hv
  simpa [Value.cells] using h
end Go.Ev

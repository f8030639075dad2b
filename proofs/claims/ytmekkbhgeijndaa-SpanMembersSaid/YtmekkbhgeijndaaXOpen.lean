/- Words of mine for the rows of this seat: what a law's arguments hold, opened by their kinds (strings, numbers, bools, slices, structs, nested as they may be). No conditions. -/
import Derived.SizedLaws
import Derived.ChangeSlices
import Derived.ChangeArms
import Derived.OpenShut
import Derived.Test.YtmekkbhgeijndaaWWords
namespace Go.Proofs.YtmekkbhgeijndaaW.XOpen
open Go Go.ChangeShapes Go.WideShapes Go.Proofs.YtmekkbhgeijndaaW.PrintWords
def Opens {α : Type} (P : Program) (t : TypeId) (d : Kd α) (S : α → Prop) : Prop :=
  P.cellsOf t = d.sz ∧ ∀ (H : Type) (enc : TypeId × Value → H) (w : World) (fuel : Nat) (cs : List Value) (x : DataW H × List MemPlace),
    DataW.trod enc P w 0 (fun _ => true) true fuel t cs = some x → (∀ n ∈ x.1.weights P t, n ≤ reachBytes) → ∃ a : α, d.K w a cs ∧ S a
section
variable {P : Program} {t : TypeId}
theorem Opens.str (hu : P.underlying t = some .string) (hc : P.cellsOf t = 1) : Opens P t Kd.string (fun s => s.size ≤ 140737488351232) := by
  refine ⟨hc, fun H enc w fuel cs x h hw => ?_⟩
  obtain ⟨s, rfl, rfl, _⟩ := DataW.trod_string hu h
  refine ⟨s, rfl, ?_⟩
  have := hw s.data.toList.length (by simp [DataW.weights])
  rw [Array.length_toList] at this
  exact this
theorem Opens.int {k : IntKind} (hu : P.underlying t = some (.int k)) (hc : P.cellsOf t = 1) : Opens P t (Kd.int k) (fun n => (Lit.int k n).wf = true) := by
  refine ⟨hc, fun H enc w fuel cs x h hw => ?_⟩
  obtain ⟨n, rfl, _, hwf⟩ := DataW.trod_int hu h
  exact ⟨n, rfl, hwf⟩
theorem Opens.bool (hu : P.underlying t = some .bool) (hc : P.cellsOf t = 1) : Opens P t Kd.bool (fun _ => True) := by
  refine ⟨hc, fun H enc w fuel cs x h hw => ?_⟩
  obtain ⟨b, rfl, _⟩ := DataW.trod_bool hu h
  exact ⟨b, rfl, trivial⟩
theorem weightsAll_mem {H : Type} {P : Program} {e : TypeId} : ∀ {ds : List (DataW H)} {d : DataW H}, d ∈ ds → ∀ n ∈ d.weights P e, n ∈ DataW.weightsAll P e ds
  | d0 :: ds, d, hd, n, hn => by
    simp only [DataW.weightsAll, List.mem_append]
    rcases List.mem_cons.1 hd with rfl | h
    · exact .inl hn
    · exact .inr (weightsAll_mem h n hn)
  | [], _, hd, _, _ => by simp at hd
theorem Opens.slice {α : Type} {e : TypeId} {d : Kd α} {S : α → Prop} {B : Nat} (hu : P.underlying t = some (.slice e)) (hc : P.cellsOf t = 1) (hB : P.bytesOf e = B) (he : Opens P e d S) :
    Opens P t (Kd.slice e d) (fun xs => xs.length * B ≤ 140737488351232 ∧ ∀ x ∈ xs, S x) := by
  refine ⟨hc, fun H enc w fuel cs x h hw => ?_⟩
  rcases DataW.trod_slice hu h with ⟨rfl, _⟩ | ⟨a, len, cap, elems, rest, n, _, rfl, rfl, _, hl, hm, hlen, hel, _, _⟩
  · exact ⟨[], ⟨none, 0, rfl, Nat.le_refl _, rfl, by simp, fun h => absurd h (by simp)⟩, by simp, fun _ h => by simp at h⟩
  · have hall : ∀ i, i < len → ∃ (c : List Value) (b : α), w.cells? 0 (a.add (i * P.cellsOf e)) (P.cellsOf e) = some c ∧ d.K w b c ∧ S b := by
      intro i hi
      have hi' := hel i hi
      have hlt : i < elems.length := by omega
      rw [List.getElem?_eq_getElem hlt] at hi'
      obtain ⟨c, hc1, hc2⟩ := Option.bind_eq_some_iff.1 hi'
      obtain ⟨b, hb, hS⟩ := he.2 H enc w n c _ hc2 (fun m hm => hw m (by
        simp only [DataW.weights, hu, List.mem_cons, List.mem_append]
        exact .inr (.inl (weightsAll_mem (List.mem_map.2 ⟨elems[i], List.getElem_mem hlt, rfl⟩) m hm))))
      exact ⟨c, b, hc1, hb, hS⟩
    have hlist : ∀ m, m ≤ len → ∃ xs : List α, xs.length = m ∧ (∀ x ∈ xs, S x) ∧ ∀ j p, xs[j]? = some p → ∃ c, w.cells? 0 (a.add (j * P.cellsOf e)) (P.cellsOf e) = some c ∧ d.K w p c := by
      intro m
      induction m with
      | zero => exact fun _ => ⟨[], rfl, fun _ h => by simp at h, fun j p h => by simp at h⟩
      | succ m ih =>
        intro hm
        obtain ⟨xs, h1, h2, h3⟩ := ih (by omega)
        obtain ⟨c, b, hc1, hb, hS⟩ := hall m (by omega)
        refine ⟨xs ++ [b], by simp [h1], fun x hx => ?_, fun j p hj => ?_⟩
        · rcases List.mem_append.1 hx with hx | hx
          · exact h2 x hx
          · rw [List.mem_singleton.1 hx]; exact hS
        · rcases Nat.lt_or_ge j xs.length with hj' | hj'
          · rw [List.getElem?_append_left hj'] at hj
            exact h3 j p hj
          · have : j = xs.length := by
              have := (List.getElem?_eq_some_iff.1 hj).1
              simp at this; omega
            subst this
            have : b = p := by simpa using hj
            subst this
            rw [h1]
            exact ⟨c, hc1, hb⟩
    obtain ⟨xs, h1, h2, h3⟩ := hlist len (Nat.le_refl _)
    have hsz : len * B ≤ 140737488351232 := by
      have z := hw ((elems.length + rest.length) * P.bytesOf e) (by simp [DataW.weights, hu])
      rw [hB, hlen] at z
      exact Nat.le_trans (Nat.mul_le_mul_right _ (by omega)) z
    refine ⟨xs, ⟨some a, cap, by rw [h1], by omega, rfl, ?_, fun _ => ⟨a, rfl, fun j p hj => ?_⟩⟩, by rw [h1]; exact hsz, h2⟩
    · have : len ≤ maxLen := by omega
      simp only [maxLen] at this
      omega
    · obtain ⟨c, hc1, hc2⟩ := h3 j p hj
      obtain ⟨_, hcl, hcell⟩ := World.cells?_some hc1
      refine ⟨c, d.K_len hc2, hc2, fun i u hu' => ?_⟩
      have hi : i < P.cellsOf e := by
        have := (List.getElem?_eq_some_iff.1 hu').1
        omega
      have hcl2 := hcell i hi
      have ha : (a.add (j * P.cellsOf e)).add i = a.add (j * d.sz + i) := by
        rw [he.1]
        unfold Addr.add
        by_cases h1 : j * d.sz = 0 <;> by_cases h2 : i = 0 <;> simp [h1, h2, Nat.add_assoc]
      rw [ha] at hcl2
      rw [hcl2, hu']
end
def OpensF {α : Type} (P : Program) (fs : List Field) (off : Nat) (d : Kd α) (S : α → Prop) : Prop :=
  ∀ (H : Type) (enc : TypeId × Value → H) (w : World) (n : Nat) (cs : List Value) (xs : List (DataW H × List MemPlace)), xs.length = fs.length →
    (∀ (i : Nat) (f : Field), fs[i]? = some f → DataW.trod enc P w 0 (fun _ => true) true n f.type ((cs.drop f.offset).take (P.cellsOf f.type)) = xs[i]?) →
    (∀ m ∈ DataW.weightsEach P (fs.map (·.type)) (xs.map (·.1)), m ≤ reachBytes) → cs.length = off + d.sz → ∃ a : α, d.K w a (cs.drop off) ∧ S a
theorem OpensF.one {α : Type} {P : Program} {f : Field} {off : Nat} {d : Kd α} {S : α → Prop} (ho : f.offset = off) (hf : Opens P f.type d S) : OpensF P [f] off d S := by
  intro H enc w n cs xs hl ht hw hc
  match xs, hl with
  | [x], _ =>
    have h0 := ht 0 f rfl
    simp only [List.getElem?_cons_zero] at h0
    obtain ⟨a, ha, hS⟩ := hf.2 H enc w n _ x h0 (fun m hm => hw m (by simpa [DataW.weightsEach] using hm))
    refine ⟨a, ?_, hS⟩
    rw [ho, hf.1, List.take_of_length_le (by rw [List.length_drop]; omega)] at ha
    exact ha
theorem OpensF.cons {α β : Type} {P : Program} {f : Field} {fs : List Field} {off off' : Nat} {d : Kd α} {d' : Kd β} {S : α → Prop} {S' : β → Prop} (ho : f.offset = off) (hf : Opens P f.type d S)
    (hoff : off' = off + d.sz) (hr : OpensF P fs off' d' S') : OpensF P (f :: fs) off (Kd.pair d d') (fun x => S x.1 ∧ S' x.2) := by
  subst hoff
  intro H enc w n cs xs hl ht hw hc
  match xs, hl with
  | x :: xs, hl =>
    have h0 := ht 0 f rfl
    simp only [List.getElem?_cons_zero] at h0
    obtain ⟨a, ha, hS⟩ := hf.2 H enc w n _ x h0 (fun m hm => hw m (by simp only [List.map_cons, DataW.weightsEach, List.mem_append]; exact .inl hm))
    have hc' : cs.length = off + d.sz + d'.sz := by rw [hc]; show off + (d.sz + d'.sz) = _; omega
    obtain ⟨b, hb, hS'⟩ := hr H enc w n cs xs (by simpa using hl) (fun i g hg => by have := ht (i + 1) g (by simpa using hg); simpa using this)
      (fun m hm => hw m (by simp only [List.map_cons, DataW.weightsEach, List.mem_append]; exact .inr hm)) hc'
    refine ⟨(a, b), ⟨_, _, ?_, ha, hb⟩, hS, hS'⟩
    rw [ho, hf.1, ← List.drop_drop, List.take_append_drop]
theorem Opens.struct {α β : Type} {P : Program} {t : TypeId} {fs : Array Field} {d : Kd α} {S : α → Prop} {f : β → α} (hu : P.underlying t = some (.struct fs)) (hc : P.cellsOf t = d.sz) (g : α → β) (hg : ∀ a, f (g a) = a)
    (hF : OpensF P fs.toList 0 d S) : Opens P t (Kd.iso d f) (fun b => S (f b)) := by
  refine ⟨hc, fun H enc w fuel cs x h hw => ?_⟩
  obtain ⟨xs, n, _, rfl, hl, hn, hf⟩ := DataW.trod_struct hu h
  obtain ⟨a, ha, hS⟩ := hF H enc w n cs xs (by simpa using hn) (fun i fl hi => hf i fl (by simpa using hi)) (fun m hm => hw m (by simp only [DataW.weights, hu]; exact hm)) (by rw [hl, hc]; omega)
  refine ⟨g a, ?_, by simpa [hg] using hS⟩
  show d.K w (f (g a)) cs
  rw [hg]
  simpa using ha
theorem opened {α H : Type} {enc : TypeId × Value → H} {P : Program} {t : TypeId} {d : Kd α} {S : α → Prop} {w : World} {v : Value} {x : DataW H} {ps : List MemPlace} {ts : List TypeId} {ds : List (DataW H)} {j : Nat} (ho : Opens P t d S)
    (hsz : (DataW.weightsEach P ts ds).all (· ≤ reachBytes) = true) (ht : ts[j]? = some t) (hd : ds[j]? = some x) (h : DataW.Trod enc P w 0 (fun _ => true) true t v x ps) :
    ∃ a : α, d.K w a v.cells.toList ∧ S a := by
  obtain ⟨fuel, hf⟩ := h
  exact ho.2 H enc w fuel _ _ hf (fun n hn => by
    have := List.all_eq_true.1 hsz n (DataW.weights_mem_each ht hd n hn)
    simpa using this)
theorem opened_agg {P : Program} {t : TypeId} {fs : Array Field} {w1 : World} {r : Reach} {b : Nat} {v : Value} {l : List Value} (hu : P.underlying t = some (.struct fs)) (hv : Value.okWide P w1 r b t v)
    (hl : v.cells.toList = l) : v = .agg l.toArray := by
  obtain ⟨cs, rfl, _⟩ := okWide_struct hu hv
  subst hl
  simp [Value.cells]
theorem opened_slice {P : Program} {t e : TypeId} {w1 : World} {r : Reach} {b : Nat} {v : Value} {u : Value} (hu : P.underlying t = some (.slice e)) (hv : Value.okWide P w1 r b t v)
    (hl : v.cells.toList = [u]) : v = u := by
  obtain ⟨a, n, c, rfl⟩ := okWide_slice hu hv
  simpa [Value.cells] using hl
end Go.Proofs.YtmekkbhgeijndaaW.XOpen

/- What a law's arguments are as things: slices as windows, structures. No conditions. -/
import Derived.Test.YtadbbgechcjciaaEvZ2
import Derived.OpenShut
import Derived.ChangeShapes
set_option linter.unusedVariables false
set_option linter.unusedSimpArgs false
namespace Go.Ev
open Go Go.RowKit Go.WideShapes Go.ChangeShapes

theorem Opens.map {α β : Type} {P : Program} {t sz : Nat} {f : α → List AV} {f' : β → List AV} {S : α → Prop} {S' : β → Prop} (h : Opens P t sz f S) (hp : Plain sz f') (g : α → β) (hf : ∀ a, f' (g a) = f a) (hS : ∀ a, S a → S' (g a)) : Opens P t sz f' S' := by
  obtain ⟨hc, _, ho⟩ := h
  refine ⟨hc, hp, fun H enc w fuel cs x h1 h2 => ?_⟩
  obtain ⟨a, h3, h4⟩ := ho H enc w fuel cs x h1 h2
  exact ⟨g a, by rw [hf]; exact h3, hS a h4⟩
def SSl {α : Type} (B : Nat) (S : α → Prop) (s : Sl α) : Prop := s.n * B ≤ 140737488351232 ∧ ∀ i, i < s.n → S (s.w i)
def SStr (s : ByteArray) : Prop := s.size ≤ 140737488351232
def SInt (k : IntKind) (n : Int) : Prop := k.min ≤ n ∧ n ≤ k.max
def SBool (b : Bool) : Prop := True
section
variable {P : Program} {t : TypeId}
theorem Opens.eS (hu : P.underlying t = some .string) (hc : P.cellsOf t = 1) : Opens P t 1 eS SStr := Opens.str hu hc
theorem Opens.eI {k : IntKind} (hu : P.underlying t = some (.int k)) (hc : P.cellsOf t = 1) : Opens P t 1 (eI k) (SInt k) :=
  (Opens.int hu hc).map ⟨fun _ => rfl, fun _ => rfl, fun _ => rfl⟩ id (fun _ => rfl) fun n h => by
    simp only [Lit.wf, Bool.and_eq_true, decide_eq_true_eq] at h
    exact h
theorem Opens.eB (hu : P.underlying t = some .bool) (hc : P.cellsOf t = 1) : Opens P t 1 eB SBool := Opens.bool hu hc
theorem Opens.eL {α : Type} [Inhabited α] {e : TypeId} {sz B : Nat} {f : α → List AV} {S : α → Prop} (hu : P.underlying t = some (.slice e)) (hc : P.cellsOf t = 1) (hB : P.bytesOf e = B) (hz : 0 < sz) (he : Opens P e sz f S) : Opens P t 1 (eL sz f) (SSl B S) :=
  (Opens.slice hu hc hB hz he).map ⟨fun _ => rfl, fun _ => rfl, fun _ => rfl⟩ (fun xs => (⟨xs.length, fun i => xs.getD i default, false⟩ : Sl α)) (fun _ => rfl) fun xs h =>
    ⟨h.1, fun i hi => by
      simp only at hi ⊢
      rw [List.getD_eq_getElem?_getD, List.getElem?_eq_getElem hi]
      exact h.2 _ (List.getElem_mem hi)⟩
end
end Go.Ev

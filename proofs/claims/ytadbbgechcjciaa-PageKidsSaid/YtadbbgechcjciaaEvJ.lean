/- The reckoner's operations tell the truth, all of them. No conditions. -/
import Derived.Test.YtadbbgechcjciaaEvI
set_option linter.unusedVariables false
set_option linter.unusedSimpArgs false
set_option linter.unusedSectionVars false
namespace Go.Ev
open Go
variable [Gh]

section
variable {ρ : Type} {P : Program} {o : Oper} {a : Act} {w : World} {Q : Exit → Act → World → Prop} {κ : Option AV → Heap → Option ρ} {x : ρ} {β : Nat → Nat} {H : Heap} {e : List (Option AV)} {c : Ctx}

theorem opE_ok (hC : CtxOK c P) (hM : CmpAll c P) {call : Nat → List AV → Heap → (AV → Heap → Option ρ) → Option ρ} (hcall : CallOK P call) (hR : HR β H w.heap) (hE : ER β H w.heap a.tmps e) {kn : Kn} (hK : KnOK kn a.tmps)
    (h : opE c call o kn e H κ = some x) : Goal P o a w Q κ x β H := by
  unfold opE at h
  split at h
  · rename_i y ho; exact op_move (.inl ho) hR hE h
  · rename_i y ho; exact op_move (.inr ho) hR hE h
  · rename_i y p q ho; exact op_pick ho hR hE hK h
  · rename_i t ho; exact op_alloc hC ho hR h
  · rename_i t y ho; exact op_box ho hR hE h
  · rename_i t parts ho; exact op_build hC ho hR hE h
  · rename_i t n parts ho; exact op_buildSlice hC ho hR hE h
  · rename_i t y ho; exact op_load hC ho hR hE h
  · rename_i t y z ho; exact op_store hC ho hR hE h
  · rename_i y ho; exact op_nilCheck ho hR hE h
  · rename_i op t y z u ho; exact op_binOp hC hM ho hR hE h
  · rename_i op t y ho; exact op_unOp ho hR hE h
  · rename_i s d y ho; exact op_convert hC ho hR hE h
  · rename_i f first caps ho; exact op_makeFunc ho hR hE h
  · rename_i t l m ho; exact op_makeSlice hC ho hR hE h
  · rename_i t y lo hi mx ho; exact op_slice hC ho hR hE h
  · rename_i s y f ho; exact op_fieldAddr hC ho hR hE h
  · rename_i s y f ho; exact op_field hC ho hR hE h
  · rename_i t y z ho; exact op_indexAddr hC ho hR hE h
  · rename_i t y z ho; exact op_index ho hC hR hE h
  · rename_i y i ho; exact op_extract ho hR hE h
  · rename_i cl ho; exact op_call hC hcall ho hR hE h
  · cases h
end
end Go.Ev

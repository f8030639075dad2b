/- The seat's table is the program's; what a law's arguments hold. No conditions. -/
import Derived.Test.YtpbiclnkbkghaaaCtx
import Derived.Test.YtpbiclnkbkghaaaGS
import Derived.Test.YtpbiclnkbkghaaaEvZ3
import Derived.Test.YtpbiclnkbkghaaaL0
import Derived.KernelRfl
import Derived.Test.YtpbiclnkbkghaaaChecked
set_option linter.unusedVariables false
set_option maxRecDepth 20000
namespace Go.Proofs.YtpbiclnkbkghaaaC
open Go Go.Ev Go.Proofs
theorem fns_ok : (ctx.fn.all fun | some fn => fnB fn | none => true) = true := by kernel_rfl
theorem fn_list : ctx.fn = (List.range 72).map fun i => bif decide (i < 3) then none else Try.prog.funcs[i]? := by kernel_rfl
theorem fnAll : FnAll ctx Try.prog := fnAll_ok (fn_of_list fn_list) fns_ok
theorem ctxOK : CtxOK ctx Try.prog := ctxB_ok (by kernel_rfl)
theorem cmpAll : CmpAll ctx Try.prog := cmpAll_ok (by kernel_rfl)
theorem extAll : ExtAll ctx Try.prog := extAll_of (l := exts) rfl (by
  intro p hp
  simp only [exts, List.mem_cons, List.not_mem_nil, or_false] at hp
  subst hp
  exact clone_ok ctxOK cmpAll (Checked.mixed Try.checked) (f := 41) (t := 22) (et := 38) Try.func41 (by kernel_rfl) ⟨_, _, _, _, _, _, _, _, _, _, _, _, rfl, rfl, rfl, ⟨rfl, rfl, rfl, rfl⟩, ⟨rfl, rfl, rfl, rfl⟩, ⟨rfl, rfl, rfl⟩, ⟨rfl, rfl, rfl, rfl⟩, ⟨rfl, rfl, rfl⟩, ⟨rfl, rfl, rfl, rfl⟩, ⟨⟨_, rfl, rfl, rfl, rfl⟩, rfl, rfl⟩, ⟨rfl, rfl, rfl, rfl⟩⟩ rfl rfl rfl)
theorem top {k f : Nat} {xs : List AV} {vs : Array Value} {W : World} (hA : Cells W.heap vs.toList xs) (h : evalF ctx k f xs [] (fun v _ => some v) = some (.bool true)) : Calls Try.prog f vs W fun e W' => e = .returned (.bool true) ∧ RowKit.Below W.heap.size W W' :=
  eval_calls ctxOK cmpAll fnAll extAll (Checked.mixed Try.checked) hA h
def SCell (x : TCell) : Prop := SStr x.Key ∧ SStr x.Value
theorem opens38 : Opens Try.prog 38 2 eCell SCell :=
  (Opens.struct Try.underlying38 rfl (OpensF.cons rfl (Opens.eS Try.underlying9 rfl) rfl (OpensF.one rfl (Opens.eS Try.underlying9 rfl)))).map ⟨fun _ => rfl, fun _ => rfl, fun _ => rfl⟩ (fun x => ⟨x.1, x.2⟩) (fun _ => rfl) fun _ h => h
def SCuts (x : TCuts) : Prop := (SSl 32 SCell) x.A ∧ SStr x.Low ∧ SStr x.Mid ∧ SStr x.High
theorem opens53 : Opens Try.prog 53 4 eCuts SCuts :=
  (Opens.struct Try.underlying53 rfl (OpensF.cons rfl (Opens.eL Try.underlying22 rfl rfl (by decide) opens38) rfl (OpensF.cons rfl (Opens.eS Try.underlying9 rfl) rfl (OpensF.cons rfl (Opens.eS Try.underlying9 rfl) rfl (OpensF.one rfl (Opens.eS Try.underlying9 rfl)))))).map ⟨fun _ => rfl, fun _ => rfl, fun _ => rfl⟩ (fun x => ⟨x.1, x.2.1, x.2.2.1, x.2.2.2⟩) (fun _ => rfl) fun _ h => h
end Go.Proofs.YtpbiclnkbkghaaaC

/- The seat's table is the program's; what a law's arguments hold. No conditions. -/
import Derived.Test.YtadbbgechcjciaaCtx
import Derived.Test.YtadbbgechcjciaaGS
import Derived.Test.YtadbbgechcjciaaEvZ3
import Derived.Test.YtadbbgechcjciaaL0
import Derived.KernelRfl
import Derived.Test.YtadbbgechcjciaaChecked
set_option linter.unusedVariables false
set_option maxRecDepth 20000
namespace Go.Proofs.YtadbbgechcjciaaC
open Go Go.Ev Go.Proofs
theorem fns_ok : (ctx.fn.all fun | some fn => fnB fn | none => true) = true := by kernel_rfl
theorem fn_list : ctx.fn = (List.range 89).map fun i => bif decide (i < 3) then none else Try.prog.funcs[i]? := by kernel_rfl
theorem fnAll : FnAll ctx Try.prog := fnAll_ok (fn_of_list fn_list) fns_ok
theorem ctxOK : CtxOK ctx Try.prog := ctxB_ok (by kernel_rfl)
theorem cmpAll : CmpAll ctx Try.prog := cmpAll_ok (by kernel_rfl)
theorem extAll : ExtAll ctx Try.prog := ExtAll.nil rfl
theorem top {k f : Nat} {xs : List AV} {vs : Array Value} {W : World} (hA : Cells W.heap vs.toList xs) (h : evalF ctx k f xs [] (fun v _ => some v) = some (.bool true)) : Calls Try.prog f vs W fun e W' => e = .returned (.bool true) ∧ RowKit.Below W.heap.size W W' :=
  eval_calls ctxOK cmpAll fnAll extAll (Checked.mixed Try.checked) hA h
end Go.Proofs.YtadbbgechcjciaaC

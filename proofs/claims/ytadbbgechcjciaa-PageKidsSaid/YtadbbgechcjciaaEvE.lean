/- The reckoner's operations tell the truth, the tenth: rows behind rows. No conditions. -/
import Derived.Test.YtadbbgechcjciaaEvD
set_option linter.unusedVariables false
set_option linter.unusedSimpArgs false
set_option linter.unusedSectionVars false
namespace Go.Ev
open Go
variable [Gh]

section
variable {P : Program} {w : World}

/-- what is appended: how much, and its cells -/
structure App (P : Program) (w : World) (ey : Ty) (et : Nat) (xt : Nat) (xv : Value) (m : Nat) (cells : Array Value) : Prop where
  size : cells.size = m * ey.size
  one : ∀ v ∈ cells.toList, v.oneCell' = true
  how : (∃ d, P.underlying xt = some d ∧ (∀ k, d ≠ .int k) ∧ (Builtin.lenOf xv).run P w = .ok m w ∧ ∀ w' : World, w'.heap = w.heap → (Builtin.firstCells ey.size m xv).run P w' = .ok cells w') ∨
    (∃ k kk, P.underlying xt = some (.int k) ∧ xv = .int kk (m : Int) ∧ m ≤ 70368744177664 ∧ m * ey.bytes ≤ 70368744177664 ∧ ∃ i z, P.info? et = some i ∧ i.zero = some z ∧ cells = if m * ey.size = 0 then #[] else Builtin.zeroCells z.cells m)

theorem append_in {st xt ty : TypeId} {et : Nat} {ey : Ty} (hu : P.underlying st = some (.slice et)) (hT : TyOK P et ey) {base : Option Addr} {sLen sCap m : Nat} {xv : Value} {cells : Array Value} (hA : App P w ey et xt xv m cells)
    (hle : sLen + m ≤ sCap) {w' : World} (hst : (match base with | some a => storeCells (a.add (sLen * ey.size)) cells.toList | none => pure () : Sem Unit).run P w = .ok () w') :
    (Builtin.append_ #[st, xt] ty #[.slice base sLen sCap, xv]).run P w = .ok (.slice base (sLen + m) sCap) w' := by
  have hfin : ∀ (r : Result Unit), r = .ok () w' → (r.andThen fun _ w'' => (Result.ok (Value.slice base (sLen + m) sCap) w'' : Result Value)) = .ok (.slice base (sLen + m) sCap) w' := by rintro r rfl; rfl
  have hb : (match base with | some a => (do storeCells (a.add (sLen * ey.size)) cells.toList; pure (Value.slice base (sLen + m) sCap) : Sem Value) | none => pure (Value.slice base (sLen + m) sCap)).run P w = .ok (.slice base (sLen + m) sCap) w' := by
    cases base with
    | none => simp only [Sem.run_pure] at hst ⊢; cases hst; rfl
    | some a => simp only [Sem.run_bind] at hst ⊢; rw [hst]; rfl
  rcases hA.how with ⟨d, hd, hk, hlen, hfc⟩ | ⟨k, kk, hd, rfl, hm1, hm2, i, z, hi, hz, hc⟩
  · have hfc := hfc w rfl
    have hzf : (match d with | .int _ => true | _ => false) = false := by cases d <;> first | rfl | exact absurd rfl (hk _)
    simp only [Builtin.append_, List.getElem?_toArray, List.getElem?_cons_zero, List.getElem?_cons_succ, Sem.run_bind, run_underlying hu w, run_underlying hd w, Result.andThen_ok, hT.sizeOf, Sem.run_pure, hzf, Bool.false_eq_true, if_false, hlen, Bool.not_false, if_true, if_pos hle, hfc]
    cases base <;> exact hb
  · have hw1 : IntKind.i64.wrap (m : Int) = m := wrap_small hm1
    have hneg : ¬ ((m : Int) < 0) := by omega
    have hty : (typeInfo et).run P w = .ok i w := by simp [typeInfo, hi]
    have hby : i.bytes = ey.bytes := by
      obtain ⟨i', hi', _, hb', _⟩ := hT.info
      rw [hi] at hi'; cases hi'; exact hb'
    have hbig : ¬ ((m : Int) * (ey.bytes : Int) > 2 ^ 48) := by
      have : ((m : Int) * (ey.bytes : Int)) = ((m * ey.bytes : Nat) : Int) := by simp
      rw [this]; omega
    have hzero : (zeroValue et).run P w = .ok z w := by simp [zeroValue, typeInfo, hi, hz]
    have happ : (if m * ey.size = 0 then pure #[] else do pure (Builtin.zeroCells (← zeroValue et).cells m) : Sem (Array Value)).run P w = .ok cells w := by
      rw [hc]
      by_cases h0 : m * ey.size = 0
      · rw [if_pos h0, if_pos h0]; rfl
      · rw [if_neg h0, if_neg h0]; simp only [Sem.run_bind, hzero, Result.andThen_ok]; rfl
    simp only [Builtin.append_, List.getElem?_toArray, List.getElem?_cons_zero, List.getElem?_cons_succ, Sem.run_bind, run_underlying hu w, run_underlying hd w, Result.andThen_ok, hT.sizeOf, Sem.run_pure, if_true, asInt, asIntOf, hw1, if_neg hneg, hty, hby, if_neg hbig, Int.toNat_natCast, Bool.not_true, Bool.false_eq_true, if_false, if_pos hle, happ]
    cases base <;> exact hb

theorem append_new {st xt ty : TypeId} {et : Nat} {ey : Ty} (hu : P.underlying st = some (.slice et)) (hT : TyOK P et ey) {base : Option Addr} {sLen sCap m : Nat} {xv : Value} {cells old : Array Value} (hA : App P w ey et xt xv m cells)
    (hlt : sCap < sLen + m) (hroom : (sLen + m) * ey.bytes ≤ 70368744177664) (hroom2 : sLen + m ≤ 70368744177664)
    (hold : ∀ w' : World, w'.heap = w.heap → (Builtin.firstCells ey.size sLen (.slice base sLen sCap)).run P w' = .ok old w') :
    ∃ (newCap : Nat) (rest : Array Value), sLen + m ≤ newCap ∧ rest.size = (newCap - (sLen + m)) * ey.size ∧ 
      (Builtin.append_ #[st, xt] ty #[.slice base sLen sCap, xv]).run P w = .ok (.slice (some ⟨w.heap.size, 0, none⟩) (sLen + m) newCap) { w with heap := w.heap.push (.cells (old ++ cells ++ rest) et (0, 0)), drawn := w.drawn + 1 } := by
  obtain ⟨i, hi, hsz, hby, z, hz, hzs, hzR⟩ := hT.info
  let q : Question := .appendCap (sLen + m) sCap et
  let newCap := q.cut (w.tape w.drawn q)
  refine ⟨newCap, Builtin.zeroCells z.cells (newCap - (sLen + m)), ?_, ?_, ?_⟩
  · show sLen + m ≤ (sLen + m) + _; omega
  · simp [Builtin.zeroCells, hzs]
  let w1 : World := { w with drawn := w.drawn + 1 }
  have hnle : ¬ (sLen + m ≤ sCap) := by omega
  have hty : ∀ w', (typeInfo et).run P w' = .ok i w' := fun w' => by simp [typeInfo, hi]
  have hzero : ∀ w', (zeroValue et).run P w' = .ok z w' := fun w' => by simp [zeroValue, typeInfo, hi, hz]
  have hmax : ¬ (((sLen + m : Nat) : Int) > IntKind.i64.max) := by
    have : IntKind.i64.max = 9223372036854775807 := by decide
    omega
  have hfit : ¬ (Builtin.nextslicecap (sLen + m) sCap * i.bytes > 2 ^ 48) := by
    have := growslice_fits hlt (bytes := i.bytes) (by rw [hby]; omega)
    omega
  have hch : (choose q).run P w = .ok newCap w1 := by
    simp only [run_choose]
    rw [if_neg (by simp [q, Question.forced])]
  rcases hA.how with ⟨d, hd, hk, hlen, hfc⟩ | ⟨k, kk, hd, rfl, hm1, hm2, i', z', hi', hz', hc⟩
  · have hfc := hfc w1 rfl
    have hzf : (match d with | .int _ => true | _ => false) = false := by cases d <;> first | rfl | exact absurd rfl (hk _)
    simp only [Builtin.append_, List.getElem?_toArray, List.getElem?_cons_zero, List.getElem?_cons_succ, Sem.run_bind, run_underlying hu w, run_underlying hd w, Result.andThen_ok, hT.sizeOf, Sem.run_pure, hzf, Bool.false_eq_true, if_false, hlen, Bool.not_false, if_true, if_neg hnle, hty w,
      false_or, hmax, false_and, if_neg hfit]
    show (Result.andThen ((choose q).run P w) _) = _
    rw [hch]
    simp only [Result.andThen_ok, hty, run_askRoom, hold w1 rfl, hfc, hzero, newRow, Sem.run_bind, run_newObj, Sem.run_pure]
    rfl
  · rw [hi] at hi'; cases hi'
    rw [hz] at hz'; cases hz'
    have hw1 : IntKind.i64.wrap (m : Int) = m := wrap_small hm1
    have hneg : ¬ ((m : Int) < 0) := by omega
    have hbig : ¬ ((m : Int) * (i.bytes : Int) > 2 ^ 48) := by
      have : ((m : Int) * (i.bytes : Int)) = ((m * ey.bytes : Nat) : Int) := by rw [hby]; simp
      rw [this]; omega
    have happ : (if m * ey.size = 0 then pure #[] else do pure (Builtin.zeroCells (← zeroValue et).cells m) : Sem (Array Value)).run P w1 = .ok cells w1 := by
      rw [hc]
      by_cases h0 : m * ey.size = 0
      · rw [if_pos h0, if_pos h0]; rfl
      · rw [if_neg h0, if_neg h0]; simp only [Sem.run_bind, hzero, Result.andThen_ok]; rfl
    simp only [Builtin.append_, List.getElem?_toArray, List.getElem?_cons_zero, List.getElem?_cons_succ, Sem.run_bind, run_underlying hu w, run_underlying hd w, Result.andThen_ok, hT.sizeOf, Sem.run_pure, if_true, asInt, asIntOf, hw1, if_neg hneg, hty w, if_neg hbig, Int.toNat_natCast, Bool.not_true, Bool.false_eq_true, if_false, if_neg hnle,
      true_or, and_true, if_neg hmax, if_neg hfit]
    show (Result.andThen ((choose q).run P w) _) = _
    rw [hch]
    simp only [Result.andThen_ok, hty, run_askRoom, hold w1 rfl, happ, hzero, newRow, Sem.run_bind, run_newObj, Sem.run_pure]
    rfl
end
end Go.Ev

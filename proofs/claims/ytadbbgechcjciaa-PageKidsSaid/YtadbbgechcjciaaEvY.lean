/- Where a function's evaluation stands at a loop's head: the loop, and what is left of the code behind it. No conditions. -/
import Derived.Test.YtadbbgechcjciaaEvX
set_option linter.unusedVariables false
namespace Go.Ev
open Go

/-- what lies around a place in the code -/
inductive Fr where
  | seq (b : Code)
  | block (id : Nat)
  | loop (a : Code) (n : Nat)
/-- the way to a place: left or right, or into a loop that has n rounds left -/
inductive Dir where
  | l | r | into (n : Nat)
def walkTo : Code → List Dir → List Fr → Option (Code × List Fr)
  | .seq a b, .l :: p, fs => walkTo a p (.seq b :: fs)
  | .seq _ b, .r :: p, fs => walkTo b p fs
  | .cond _ a _, .l :: p, fs => walkTo a p fs
  | .cond _ _ b, .r :: p, fs => walkTo b p fs
  | .block id a, p, fs => walkTo a p (.block id :: fs)
  | .loop a, .into n :: p, fs => walkTo a p (.loop a n :: fs)
  | .loop a, [], fs => some (.loop a, fs)
  | .region id ops dr, [], fs => some (.region id ops dr, fs)
  | _, _, _ => none
section
variable {ρ : Type}
def contF (c : Ctx) (lv : List (Nat × List Nat)) (m k : Nat) (call : Bool → Nat → List AV → Heap → (AV → Heap → Option ρ) → Option ρ) : List Fr → (Ex → St → Option ρ) → Ex → St → Option ρ
  | [], κ => κ
  | .seq b :: fs, κ => fun x s => match x with
    | .normal => codeE c lv m k call b (contF c lv m k call fs κ) s
    | x => contF c lv m k call fs κ x s
  | .block id :: fs, κ => fun x s => match x with
    | .exit j => if j = id then contF c lv m k call fs κ .normal s else contF c lv m k call fs κ (.exit j) s
    | x => contF c lv m k call fs κ x s
  | .loop a n :: fs, κ => fun x s => match x with
    | .normal => loopN (codeE c lv m k call a) (gc m ((find1 (headOf a) lv).getD [])) n (contF c lv m k call fs κ) s
    | x => contF c lv m k call fs κ x s
/-- a function's evaluation from a loop's head on, n rounds at most; s: what lives on there -/
def headAt (c : Ctx) (k f m : Nat) (p : List Dir) (n : Nat) (s : St) (κ : AV → Heap → Option ρ) : Option ρ :=
  match c.fnOf f with
  | none => none
  | some fn => match fn.body with
    | none => none
    | some code => match walkTo code p [] with
      | some (.loop a, fs) =>
        let lv := c.live.getD f []
        let call : Bool → Nat → List AV → Heap → (AV → Heap → Option ρ) → Option ρ := fun dr => callE (c.cm f) dr (evalF c k)
        let κt : Ex → St → Option ρ := contF c lv m k call fs (fun x s => match x with
          | .exit _ => none
          | _ => opt (resE c s fn.results.toList) fun vs => κ (oneOf vs) s.heap)
        loopG (codeE c lv m k call a) (gc m ((find1 (headOf a) lv).getD [])) n κt s
      | _ => none
/-- a function's evaluation behind operation i of a region -/
def resAt (c : Ctx) (k f m : Nat) (p : List Dir) (i : Nat) (kn : Kn) (s : St) (κ : AV → Heap → Option ρ) : Option ρ :=
  match c.fnOf f with
  | none => none
  | some fn => match fn.body with
    | none => none
    | some code => match walkTo code p [] with
      | some (.region id ops dr, fs) =>
        let lv := c.live.getD f []
        let call : Bool → Nat → List AV → Heap → (AV → Heap → Option ρ) → Option ρ := fun dr => callE (c.cm f) dr (evalF c k)
        let κt : Ex → St → Option ρ := contF c lv m k call fs (fun x s => match x with
          | .exit _ => none
          | _ => opt (resE c s fn.results.toList) fun vs => κ (oneOf vs) s.heap)
        contO (opsE c (call dr) ops.toList (ops.toList.drop (i + 1))) kn s (endR lv m id (κt .normal))
      | _ => none
/-- a function's evaluation behind a region; s: what lives on there -/
def endAt (c : Ctx) (k f m : Nat) (p : List Dir) (s : St) (κ : AV → Heap → Option ρ) : Option ρ :=
  match c.fnOf f with
  | none => none
  | some fn => match fn.body with
    | none => none
    | some code => match walkTo code p [] with
      | some (.region _ _ _, fs) =>
        let lv := c.live.getD f []
        let call : Bool → Nat → List AV → Heap → (AV → Heap → Option ρ) → Option ρ := fun dr => callE (c.cm f) dr (evalF c k)
        joinO (contF c lv m k call fs (fun x s => match x with
          | .exit _ => none
          | _ => opt (resE c s fn.results.toList) fun vs => κ (oneOf vs) s.heap) .normal) s
      | _ => none
def envOf (n : Nat) (vs : List (Nat × AV)) : List (Option AV) := (List.range n).map fun i => find1 i vs
end
end Go.Ev

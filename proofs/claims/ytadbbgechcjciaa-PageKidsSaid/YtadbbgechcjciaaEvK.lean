/- The reckoner goes on from one outcome: what it tells of a rest is that rest at the outcome. No conditions. -/
import Derived.Test.YtadbbgechcjciaaEvJ
set_option linter.unusedVariables false
set_option linter.unusedSimpArgs false
set_option linter.unusedSectionVars false
namespace Go.Ev
open Go

abbrev Call1 := Nat → List AV → Heap → Option (AV × Heap)
def Call1.on (g : Call1) {ρ : Type} (f : Nat) (as : List AV) (H : Heap) (κ : AV → Heap → Option ρ) : Option ρ := (g f as H).bind fun p => κ p.1 p.2

section
variable {ρ : Type} {c : Ctx}
theorem opt_bind {α β : Type} (x : Option α) (f : α → Option β) (g : β → Option ρ) : (opt x f).bind g = opt x fun v => (f v).bind g := by cases x <;> rfl
theorem chk_bind {β : Type} (x : Option (Bool × AV)) (f : AV → Option β) (g : β → Option ρ) : (chk x f).bind g = chk x fun v => (f v).bind g := by
  rcases x with _ | ⟨b, v⟩
  · rfl
  · cases b <;> rfl
theorem ite_bind {β : Type} (p : Prop) [Decidable p] (x : Option β) (g : β → Option ρ) : (if p then x else none).bind g = if p then x.bind g else none := by split <;> rfl
theorem bif_bind {β : Type} (b : Bool) (x y : Option β) (g : β → Option ρ) : (bif b then x else y).bind g = bif b then x.bind g else y.bind g := by cases b <;> rfl
theorem pair_bind {α β : Type} (a : α) (b : β) (κ : α → β → Option ρ) : ((some (a, b) : Option (α × β)).bind fun p => κ p.1 p.2) = κ a b := rfl

theorem appendE_bind (sz bytes : Nat) (H : Heap) (x : AV) (m : Nat) (row' : Nat → List AV) (κ : AV → Heap → Option ρ) :
    appendE sz bytes H x m row' κ = (appendE sz bytes H x m row' fun v H => some (v, H)).bind fun p => κ p.1 p.2 := by
  unfold appendE
  cases x <;> simp only [ite_bind, bif_bind, pair_bind, Option.bind_none]
  split <;> simp only [ite_bind, bif_bind, pair_bind, Option.bind_none]
theorem copyE_bind (H : Heap) (x y : AV) (κ : AV → Heap → Option ρ) : copyE H x y κ = (copyE H x y fun v H => some (v, H)).bind fun p => κ p.1 p.2 := by
  unfold copyE
  split
  · rename_i h1 h2
    split <;> simp only [ite_bind, pair_bind, Option.bind_none]
  · rfl
theorem pickE_bind (kn : Kn) (y : Operand) (a b d : Option AV) (κ : AV → Option ρ) : pickE kn y a b d κ = (pickE kn y a b d some).bind κ := by
  unfold pickE
  split
  · split <;> rfl
  · split <;> rfl
  · split
    · rfl
    · simp only [bif_bind]
      congr 1 <;> split <;> rfl
    · rfl
theorem builtinE_bind (b : Builtin) (ats : List Nat) (as : List AV) (H : Heap) (κ : AV → Heap → Option ρ) :
    builtinE c b ats as H κ = (builtinE c b ats as H fun v H => some (v, H)).bind fun p => κ p.1 p.2 := by
  unfold builtinE
  split
  · simp only [opt_bind, pair_bind]
  · simp only [opt_bind, pair_bind]
  · simp only [opt_bind, pair_bind]
  · simp only [opt_bind, pair_bind]
  · split
    · split
      · split
        · simp only [ite_bind, bif_bind, Option.bind_none, ← appendE_bind]
        · simp only [ite_bind, opt_bind, Option.bind_none, ← appendE_bind]
      · rfl
    · rfl
  · split
    · split
      · simp only [ite_bind, ← copyE_bind]
      · rfl
    · rfl
  · rfl

theorem opE_bind (g : Call1) (o : Oper) (kn : Kn) (e : List (Option AV)) (H : Heap) (κ : Option AV → Heap → Option ρ) :
    opE c g.on o kn e H κ = (opE c g.on o kn e H fun v H => some (v, H)).bind fun p => κ p.1 p.2 := by
  unfold opE
  split <;> simp only [loadE_eq, storeE_eq, opt_bind, chk_bind, ite_bind, bif_bind, pair_bind, Option.bind_none]
  · rw [pickE_bind]
    conv => rhs; rw [pickE_bind]
    simp only [Option.bind_assoc, pair_bind]
  · split <;> simp only [opt_bind, chk_bind, ite_bind, bif_bind, pair_bind, Option.bind_none]
  · congr 1; funext p; split <;> rfl
  · congr 1; funext p; split <;> simp only [opt_bind, chk_bind, pair_bind]
  · congr 1; funext p; congr 1; funext q; split <;> simp only [opt_bind, bif_bind, pair_bind, Option.bind_none]
  · congr 1; funext p; congr 1; funext q; congr 1; funext r; split <;> simp only [opt_bind, chk_bind, bif_bind, pair_bind, Option.bind_none]
  · congr 1; funext p; split
    · simp only [opt_bind]
      congr 1; funext q; obtain ⟨q1, q2⟩ := q; simp only [opt_bind]
      congr 1; funext r; split <;> simp only [opt_bind, pair_bind, Option.bind_none]
    · rfl
  · congr 1; funext p; split
    · simp only [opt_bind]
      congr 1
    · rfl
  · congr 1; funext p; congr 1; funext q; split <;> simp only [opt_bind, chk_bind, pair_bind, Option.bind_none]
  · congr 1; funext p; congr 1; funext q; split <;> simp only [bif_bind, pair_bind, Option.bind_none]
  · congr 1; funext p; split <;> simp only [opt_bind, pair_bind, Option.bind_none]
  · congr 1; funext p; split
    · rw [builtinE_bind]
      conv => rhs; rw [builtinE_bind]
      simp only [Option.bind_assoc, pair_bind]
    · simp only [opt_bind]
      congr 1; funext q; split
      · simp only [Call1.on, Option.bind_assoc, pair_bind]
      · rfl
    · rfl

/-! ### rows of operations, code, calls -/
theorem opsE_bind (g : Call1) (all : List Oper) : ∀ (os : List Oper) (kn : Kn) (s : St) (κ : St → Option ρ), opsE c g.on all os kn s κ = (opsE c g.on all os kn s some).bind κ
  | [], kn, s, κ => rfl
  | o :: os, kn, s, κ => by
    have ex : ∀ kn, (opE c g.on o kn s.env s.heap fun v H => opsE c g.on all os (knPut kn o.dst) ⟨putE s.env o.dst v, H⟩ κ) = (opE c g.on o kn s.env s.heap fun v H => opsE c g.on all os (knPut kn o.dst) ⟨putE s.env o.dst v, H⟩ some).bind κ := by
      intro kn
      rw [opE_bind]
      conv => rhs; rw [opE_bind]
      rw [Option.bind_assoc]
      congr 1; funext p
      rw [opsE_bind g all os]
    have sk : ∀ kn, opsE c g.on all os (knPut kn o.dst) ⟨putE s.env o.dst none, s.heap⟩ κ = (opsE c g.on all os (knPut kn o.dst) ⟨putE s.env o.dst none, s.heap⟩ some).bind κ := fun kn => opsE_bind g all os _ _ _
    simp only [opsE, contO, putK_eq]
    split
    · exact ex kn
    · split
      · rfl
      · split
        · split
          · exact ex kn
          · exact sk kn
        · split
          · simp only [bif_bind]
            congr 1
            · split
              · exact ex _
              · exact sk _
            · split
              · exact ex _
              · exact sk _
          · exact sk kn
          · rfl
abbrev Go1 := Ex × St
theorem loopN_bind (B : (Ex → St → Option ρ) → St → Option ρ) (B1 : (Ex → St → Option Go1) → St → Option Go1) (C1 : St → Option Go1) (hB : ∀ κ s, B κ s = (C1 s).bind fun p => κ p.1 p.2) (hB1 : ∀ κ s, B1 κ s = (C1 s).bind fun p => κ p.1 p.2)
    (gc : St → Option St) : ∀ (n : Nat) (κ : Ex → St → Option ρ) (s : St), loopN B gc n κ s = (loopN B1 gc n (fun x s => some (x, s)) s).bind fun p => κ p.1 p.2
  | 0, κ, s => by rw [loopN_zero, loopN_zero]; rfl
  | n + 1, κ, s => by
    simp only [loopN_succ]
    split
    · rfl
    · rw [hB, hB1, Option.bind_assoc]
      congr 1; funext p
      split
      · exact loopN_bind B B1 C1 hB hB1 gc n κ _
      · rfl
theorem endR_bind (lv : List (Nat × List Nat)) (m id : Nat) (κ : Ex → St → Option ρ) (s : St) : endR lv m id (κ .normal) s = (endR lv m id (fun s => some (Ex.normal, s)) s).bind fun p => κ p.1 p.2 := by
  unfold endR
  split
  · rfl
  · split <;> rfl
theorem codeE_bind (lv : List (Nat × List Nat)) (m k : Nat) (g : Bool → Call1) : ∀ (a : Code) {ρ : Type} (κ : Ex → St → Option ρ) (s : St),
    codeE c lv m k (fun d => (g d).on) a κ s = (codeE c lv m k (fun d => (g d).on) a (fun x s => some (x, s)) s).bind fun p => κ p.1 p.2
  | .skip, _, κ, s => rfl
  | .label _, _, κ, s => rfl
  | .region _ ops dr, _, κ, s => by
    simp only [codeE]
    rw [opsE_bind]
    conv => rhs; rw [opsE_bind, Option.bind_assoc]
    congr 1; funext p
    exact endR_bind lv m _ κ p
  | .seq a b, _, κ, s => by
    simp only [codeE]
    rw [codeE_bind lv m k g a]
    conv => rhs; rw [codeE_bind lv m k g a, Option.bind_assoc]
    congr 1; funext p
    split
    · exact codeE_bind lv m k g b κ _
    · rfl
  | .cond y a b, _, κ, s => by
    simp only [codeE]
    split
    · rw [bif_bind]
      congr 1
      · exact codeE_bind lv m k g a κ s
      · exact codeE_bind lv m k g b κ s
    · rfl
  | .block id a, _, κ, s => by
    simp only [codeE]
    rw [codeE_bind lv m k g a]
    conv => rhs; rw [codeE_bind lv m k g a, Option.bind_assoc]
    congr 1; funext p
    split
    · split <;> rfl
    · rfl
  | .loop a, ρ', κ, s => by
    simp only [codeE]
    exact loopN_bind _ _ (fun s => codeE c lv m k (fun d => (g d).on) a (fun x s => some (x, s)) s) (fun κ s => codeE_bind lv m k g a κ s) (fun κ s => codeE_bind lv m k g a κ s) _ k κ s
  | .exit _, _, κ, s => rfl
  | .ret, _, κ, s => rfl
  | .goto _, _, κ, s => rfl
  | .rangeFunc .., _, κ, s => rfl
  | .scope .., _, κ, s => rfl
  | .refuse _, _, κ, s => rfl
theorem callE_bind (dr : Bool) (g : Call1) (f : Nat) (as : List AV) (H : Heap) (κ : AV → Heap → Option ρ) : callE c dr g.on f as H κ = (callE c dr g.on f as H fun v H => some (v, H)).bind fun p => κ p.1 p.2 := by
  unfold callE
  split
  · simp only [opt_bind, Call1.on, Option.bind_assoc]
    congr 1; funext p; congr 1; funext q; congr 1; funext r
    split
    · rfl
    · split <;> rfl
  · simp only [opt_bind, Call1.on, Option.bind_assoc]
    congr 1; funext p; congr 1; funext q; congr 1; funext r
    split
    · rfl
    · split <;> rfl
  · split
    · rfl
    · simp only [opt_bind, Call1.on, Option.bind_assoc]
      rfl
  · split
    · rfl
    · simp only [opt_bind, ite_bind, Call1.on, Option.bind_assoc]
      rfl
/-- what a call comes to, outright -/
def eval1 (c : Ctx) (k : Nat) : Call1 := fun f as H => evalF c k f as H fun v H => some (v, H)
def call1 (cm c : Ctx) (k : Nat) (dr : Bool) : Call1 := fun f as H => callE cm dr (eval1 c k).on f as H fun v H => some (v, H)
theorem evalF_bind : ∀ (k : Nat) {ρ : Type}, (evalF c k : Nat → List AV → Heap → (AV → Heap → Option ρ) → Option ρ) = (eval1 c k).on
  | 0, ρ => rfl
  | k + 1, ρ => by
    funext f as H κ
    have e1 : ∀ (cm : Ctx) {ρ : Type}, (fun dr => callE cm dr (evalF c k) : Bool → Nat → List AV → Heap → (AV → Heap → Option ρ) → Option ρ) = fun dr => (call1 cm c k dr).on := by
      intro cm ρ
      funext dr
      rw [evalF_bind k]
      funext f as H κ
      exact callE_bind dr _ f as H κ
    unfold Call1.on eval1
    simp only [evalF]
    split
    · simp only [opt_bind]
      rfl
    split
    · rfl
    · split
      · rfl
      · rw [e1, e1, codeE_bind]
        conv => rhs; rw [codeE_bind, Option.bind_assoc]
        congr 1; funext p
        split
        · rfl
        · simp only [opt_bind, pair_bind]
end
end Go.Ev

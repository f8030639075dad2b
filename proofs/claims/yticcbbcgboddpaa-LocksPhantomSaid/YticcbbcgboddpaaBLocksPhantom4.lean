/- For every range and every key a key of a range that is held, shared, is granted to no other transaction, as X, but waits, and is granted once the first one is released: the law's function hands back true and leaves what it was handed. No conditions. -/
import Derived.Test.YticcbbcgboddpaaBLocksPhantom3
import Derived.Test.YticcbbcgboddpaaRows
import Derived.WalkKit
import Derived.ProofKit
import Derived.OpenShut
import Derived.ShutString
import Derived.ChangeOld
import Derived.Below
import Derived.SizedLaws
import Derived.Carry
set_option linter.unusedVariables false
set_option linter.unusedSimpArgs false
set_option maxRecDepth 20000
namespace Go.Proofs.YticcbbcgboddpaaC
open Go Go.Ev Go.Proofs
theorem ask_run {s : TLocks} {a : TLock} (hc : checkB s = true) (hm : mayB a = true) (hw : waitL s.Waits.l a.Tx = false) (hv : covL s.Held.l a = false) (hn : s.Held.l.length + s.Waits.l.length ≠ 200) :
    askE s a = 0 ∧ askG s a = grantsL a s.Held.l s.Waits.l ∧ askH s a = (if grantsL a s.Held.l s.Waits.l = true then s.Held.l ++ [a] else s.Held.l) ∧ askW s a = (if grantsL a s.Held.l s.Waits.l = true then s.Waits.l else s.Waits.l ++ [a]) := by
  have h1 : s.Held.l.length = s.Held.n := lst_len _ _
  have h2 : s.Waits.l.length = s.Waits.n := lst_len _ _
  have hE : askE s a = 0 := by
    unfold askE
    rw [hc, hm, waitL_eq, hw, covL_eq, hv, if_neg (by decide), if_neg (by decide), if_neg (by decide), if_neg (by decide), if_neg (by omega)]
  refine ⟨hE, ?_, ?_, ?_⟩
  · unfold askG; rw [hE, covL_eq, hv, okL_eq, dec_int]; simp
  · unfold askH; rw [hE, covL_eq, hv, okL_eq, if_neg (by simp)]; simp
  · unfold askW; rw [hE, covL_eq, hv, okL_eq, if_neg (by simp)]; simp
theorem locksPhantom_pure (r : TRange) (key : ByteArray) (h0 : SRange r) (h1 : SStr key) : ∃ k, evalF ctx k n_law22_LocksPhantom [.agg (eRange r), .str key] [] (fun v _ => some v) = some (.bool true) := by
  suffices h : ∀ K, 1000 ≤ K → ∀ (κ : AV → Heap → Option Bool), (∀ b H, κ (.bool b) H = some b) → evalF ctx (K + 1) n_law22_LocksPhantom [.agg (eRange r), .str key] [] κ = some true by
    exact ⟨1000 + 1, told_true (h 1000 (Nat.le_refl _))⟩
  intro K hK κ hκ
  have hh : ∀ κ : AV → Option Bool, callP ctx K n_law22_head [] κ = κ (.bool true) := by
    intro κ
    obtain ⟨K0, rfl⟩ : ∃ K0, K = K0 + 300 := ⟨K - 300, by omega⟩
    exact head_ok K0 κ
  refine (law22_LocksPhantom_e K r key κ).trans ?_
  have hd : ∀ x, callP ctx K n_law22_head [] (law22_LocksPhantom_r0 K r key x κ) = some true := fun x => by rw [hh, law22_LocksPhantom_r0_s, hκ]
  cases decide (513 < (r.From.size : Int)) with
  | true => exact hd true
  | false =>
  cases decide (513 < (r.To.size : Int)) with
  | true => exact hd true
  | false =>
  by_cases hks : key.size ≤ 512
  · rw [dec_f (show ¬ 512 < (key.size : Int) by omega), cond_false, cond_false, cond_false, r03_Right_ok K r (by omega), law22_LocksPhantom_r1_s]
    cases hr : rRight r with
    | false => exact hd true
    | true =>
      rw [Bool.not_true, cond_false]
      generalize ha : (⟨1, r, false⟩ : TLock) = a
      generalize hb : (⟨2, pointR key, true⟩ : TLock) = b
      have hma : mayB a = true := by rw [← ha]; unfold mayB; simp [hr]
      have hmb : mayB b = true := by rw [← hb]; unfold mayB; simp [point_right hks]
      have hne : decide (b.Tx = a.Tx) = false := by rw [← ha, ← hb]; rfl
      have hag : againstB b a = hasB r key := by
        unfold againstB
        rw [hne, ← ha, ← hb]
        simp only [Bool.not_false, Bool.true_and, Bool.or_false]
        exact point_meets hks hr
      have hhas : rHas r key = hasB r key := by unfold rHas; rw [hr, Bool.true_and]
      obtain ⟨n, v, m, w, q1, q2, q3⟩ := Ask_ok (ρ := Bool) K zLocks a (by decide) (by decide) (by show 0 + 0 + 80 ≤ K; omega)
      obtain ⟨a1, a2, a3, a4⟩ := ask_run (s := zLocks) (a := a) rfl hma rfl rfl (by decide)
      have g0 : grantsL a zLocks.Held.l zLocks.Waits.l = true := rfl
      rw [g0, if_pos rfl] at a3 a4
      rw [g0] at a2
      rw [q3, a1, a2]
      refine (law22_LocksPhantom_r2_s K r key true ⟨⟨n, v, false⟩, ⟨m, w, false⟩⟩ true 0 κ).trans ?_
      rw [r03_Point_ok K key hks (by omega)]
      refine (law22_LocksPhantom_r3_s K r key ⟨⟨n, v, false⟩, ⟨m, w, false⟩⟩ true 0 (pointR key) κ).trans ?_
      rw [hb]
      have l1 : (⟨⟨n, v, false⟩, ⟨m, w, false⟩⟩ : TLocks).Held.l = [a] := q1.trans a3
      have l2 : (⟨⟨n, v, false⟩, ⟨m, w, false⟩⟩ : TLocks).Waits.l = [] := q2.trans a4
      have hn : n = 1 := by have := congrArg List.length l1; rw [show (⟨⟨n, v, false⟩, ⟨m, w, false⟩⟩ : TLocks).Held.l.length = n from lst_len _ _] at this; exact this
      have hm : m = 0 := by have := congrArg List.length l2; rw [show (⟨⟨n, v, false⟩, ⟨m, w, false⟩⟩ : TLocks).Waits.l.length = m from lst_len _ _] at this; exact this
      have hc1 : checkB ⟨⟨n, v, false⟩, ⟨m, w, false⟩⟩ = true := (check_tab _).2 (by rw [l1, l2]; exact tab_one hma)
      obtain ⟨n', v', m', w', p1, p2, p3⟩ := Ask_ok (ρ := Bool) K ⟨⟨n, v, false⟩, ⟨m, w, false⟩⟩ b (by show n ≤ _; omega) (by show m ≤ _; omega) (by show n + m + 80 ≤ K; omega)
      have hcv : covL [a] b = false := by
        unfold covL coversB
        simp only [List.any_cons, List.any_nil, Bool.or_false]
        rw [show decide (a.Tx = b.Tx) = false by rw [← ha, ← hb]; rfl]; rfl
      obtain ⟨b1, b2, b3, b4⟩ := ask_run (a := b) hc1 hmb (by rw [l2]; rfl) (by rw [l1]; exact hcv) (by rw [l1, l2]; simp)
      have hgr : grantsL b [a] [] = !hasB r key := by
        unfold grantsL
        simp [hag]
      rw [l1, l2, hgr] at b2 b3 b4
      rw [p3, b1, b2]
      refine (law22_LocksPhantom_r4_s K r key ⟨⟨n, v, false⟩, ⟨m, w, false⟩⟩ true 0 (pointR key) ⟨⟨n', v', false⟩, ⟨m', w', false⟩⟩ (!hasB r key) 0 κ).trans ?_
      rw [Bool.not_true, cond_false, dec_int, Bool.not_true, cond_false, cond_false, r03_Has_ok' K r key (by omega), hhas]
      refine (law22_LocksPhantom_r5_s K r key true 0 (pointR key) ⟨⟨n', v', false⟩, ⟨m', w', false⟩⟩ (!hasB r key) 0 (hasB r key) κ).trans ?_
      rw [show ((!hasB r key) == hasB r key) = false by cases hasB r key <;> rfl, cond_false]
      have k1 : (⟨⟨n', v', false⟩, ⟨m', w', false⟩⟩ : TLocks).Held.l = _ := p1.trans b3
      have k2 : (⟨⟨n', v', false⟩, ⟨m', w', false⟩⟩ : TLocks).Waits.l = _ := p2.trans b4
      have e1 : (⟨⟨n', v', false⟩, ⟨m', w', false⟩⟩ : TLocks).Held.l.length = n' := lst_len _ _
      have e2 : (⟨⟨n', v', false⟩, ⟨m', w', false⟩⟩ : TLocks).Waits.l.length = m' := lst_len _ _
      have hself : coversB b b = true := by
        unfold coversB
        rw [dec_int, ← hb]
        show (true && ((true || !true) && withinB (pointR key) (pointR key))) = true
        rw [within_self (point_right hks)]; rfl
      have hold : ∀ T : List Int, (decide ((T.length : Int) = 1) == (!(!hasB r key))) = true → law22_LocksPhantom_r6 K (pointR key) ⟨⟨n', v', false⟩, ⟨m', w', false⟩⟩ (!hasB r key) (hasB r key) κ (tabT [b] [] T 0) = some true := by
        intro T hT
        refine (law22_LocksPhantom_r6_s K (pointR key) ⟨⟨n', v', false⟩, ⟨m', w', false⟩⟩ (!hasB r key) (hasB r key) ⟨lsl [b], lsl []⟩ ⟨T.length, gd 0 T, false⟩ 0 κ).trans ?_
        rw [dec_int, cond_true]
        refine (congrArg (fun x => bif x then _ else _) hT).trans ?_
        rw [cond_true, hb]
        refine (locks_Holds_ok K ⟨lsl [b], lsl []⟩ b (by show 1 ≤ _; omega) (by show 0 ≤ _; omega) (by show 1 + 0 + 60 ≤ K; omega) _).trans ?_
        have hcb : checkB ⟨lsl [b], lsl []⟩ = true := (check_tab _).2 (by
          rw [show (⟨lsl [b], lsl []⟩ : TLocks).Held.l = [b] from gd_lst zLock [b], show (⟨lsl [b], lsl []⟩ : TLocks).Waits.l = [] from rfl]; exact tab_one hmb)
        rw [hcb, hmb, covL_eq, show (⟨lsl [b], lsl []⟩ : TLocks).Held.l = [b] from gd_lst zLock [b], show covL [b] b = true by unfold covL; simp [hself]]
        refine (law22_LocksPhantom_r7_s K (pointR key) (!hasB r key) ⟨lsl [b], lsl []⟩ ⟨T.length, gd 0 T, false⟩ 0 true κ).trans ?_
        rw [cond_true, hh]
        refine (law22_LocksPhantom_r8_s K (pointR key) (!hasB r key) ⟨lsl [b], lsl []⟩ ⟨T.length, gd 0 T, false⟩ 0 true true κ).trans ?_
        exact hκ _ _
      have hoa : othL [a] 1 = [] := by rw [← ha]; rfl
      have hob : othL [b] 1 = [b] := by rw [← hb]; rfl
      cases hh2 : hasB r key with
      | true =>
        rw [hh2, Bool.not_true, if_neg (by decide)] at k1 k2
        rw [k1] at e1
        rw [k2] at e2
        have hc2 : checkB ⟨⟨n', v', false⟩, ⟨m', w', false⟩⟩ = true := (check_tab _).2 (by
          rw [k1, k2]
          refine ⟨by simp, (tab_one hma).held, fun i x hx => ?_⟩
          cases i with
          | zero => simp at hx; subst hx; exact ⟨hmb, rfl, by show grantsL b [a] [] = false; rw [hgr, hh2]; rfl⟩
          | succ i => simp at hx)
        refine (rel_ok K ⟨⟨n', v', false⟩, ⟨m', w', false⟩⟩ 1 hc2 (by show n' + m' + 100 ≤ K; simp at e1 e2; omega) _).trans ?_
        rw [k1, k2, List.nil_append, hoa, hob]
        rw [hh2] at hold
        exact hold [b.Tx] rfl
      | false =>
        rw [hh2, Bool.not_false, if_pos rfl] at k1 k2
        rw [k1] at e1
        rw [k2] at e2
        have hc2 : checkB ⟨⟨n', v', false⟩, ⟨m', w', false⟩⟩ = true := (check_tab _).2 (by
          rw [k1, k2]
          refine ⟨by simp, fun i x hx => ?_, fun i x h => by simp at h⟩
          match i with
          | 0 => simp at hx; subst hx; exact ⟨hma, rfl⟩
          | 1 => simp at hx; subst hx; exact ⟨hmb, by show grantsL b [a] [] = true; rw [hgr, hh2]; rfl⟩
          | i + 2 => simp at hx)
        refine (rel_ok K ⟨⟨n', v', false⟩, ⟨m', w', false⟩⟩ 1 hc2 (by show n' + m' + 100 ≤ K; simp at e1 e2; omega) _).trans ?_
        rw [k1, k2]
        have : othL ([a] ++ [b]) 1 = [b] := by rw [← ha, ← hb]; rfl
        rw [this]
        rw [hh2] at hold
        exact hold [] rfl
  · rw [dec_t (show 512 < (key.size : Int) by omega), cond_false, cond_false, cond_true]
    exact hd true
end Go.Proofs.YticcbbcgboddpaaC

namespace Go.Proofs.Yticcbbcgboddpaa.locksPhantom
open Go Go.ChangeShapes Go.WideShapes Go.ChangeAt Go.RowKit Go.Ev Go.Proofs.YticcbbcgboddpaaC
open Go.ChangeMaps (open_string shut_string)
set_option linter.unusedVariables false
theorem own : ownKnob Try.prog.godebug = none := by kernel_rfl
theorem laidOut : laidOutB Try.prog = true := by kernel_rfl
set_option maxRecDepth 100000 in
theorem lifted (os : Os) (started : os.Started) (H : Type) (enc : TypeId × Value → H) :
    ReturnsInHanded {} Try.checked os 3 .any (Rows.locksPhantomSpec.pre6 enc Try.prog Try.f3 Rows.locksPhantomRow.domain false) (Rows.locksPhantomSpec.post enc Try.prog Try.f3 false true false false) := by
  refine returnsInHanded_of_change_sized (C := Try.checked) own started (by kernel_rfl) Try.func3
    (ChangeSpec.witness6 (enc := enc) (C := Try.checked) false ⟨#[], #[.agg #[.string ByteArray.empty, .string ByteArray.empty, .bool false], .string ByteArray.empty], []⟩ 8 (by kernel_rfl) (by kernel_rfl) (by kernel_rfl) (by kernel_rfl)) ?_
  intro W base args ds gs before hval0 hW hcnd hsz0 _
  have hsz : (DataW.weightsEach Try.prog (Try.f3.params.toList ++ Rows.locksPhantomSpec.plain.varTypes Try.prog) (ds ++ gs)).all (· ≤ reachBytes) = true := hsz0
  have hval : ∀ (j : Nat) t v, Try.f3.params[j]? = some t → args[j]? = some v → Value.okWide Try.prog W .any base t v := hval0
  have hW' := hW
  obtain ⟨p, q, hA0, hV, rfl, hfz, hnd⟩ := hW
  have hA : DataW.TrodAll enc Try.prog W 0 (fun _ => true) true Try.f3.params.toList args.toList ds p := hA0
  rw [Try.params3] at hA hval hsz
  obtain ⟨v0, vs0, d0, ds0, p0, q0, hargs, rfl, rfl, h0, r0⟩ := trodAll_cons hA
  obtain ⟨v1, vs1, d1, ds1, p1, q1, rfl, rfl, rfl, h1, r1⟩ := trodAll_cons r0
  obtain ⟨rfl, rfl, rfl⟩ := trodAll_nil r1
  obtain rfl : args = #[v0, v1] := by cases args; simp_all
  obtain ⟨rfl, rfl⟩ := trodVars_none hV
  have k0 := h0
  have lt0 : ∀ x ∈ p0, x.block < W.heap.size := by obtain ⟨m, hm⟩ := k0; exact DataW.trod_lt m _ _ _ hm
  obtain ⟨a0, hK0, hS0⟩ := opened (j := 0) (t := 23) opens23 hsz rfl rfl h0
  obtain ⟨a1, rfl, rfl, rfl, y1⟩ := open_string Try.underlying9 (hval 1 9 v1 rfl rfl) h1
  have hS1 : a1.size ≤ 140737488351232 := by
    have z := sized_string hsz (j := 1) (t := 9) rfl rfl
    rw [Array.length_toList] at z
    exact z
  clear hA0 hval0 hsz0
  obtain ⟨k, h⟩ := locksPhantom_pure a0 a1 hS0 hS1
  refine (top ((arg_agg Try.underlying23 (hval 0 23 v0 rfl rfl) opens23.2.1 hK0).append ((Cells.one (@R.str free _ _ _ a1)))) h).mono fun e W' ⟨he, bel⟩ => ?_
  subst he
  exact ⟨_, rfl, _, _, _, [], _, [], hW', trodAll_mk1 (shut_bool Try.underlying4 _), (trodAll_cons_mk (Below.trod laidOut (by kernel_rfl) (of_decide_eq_true (by kernel_rfl)) k0 bel lt0) (trodAll_cons_mk (shut_string Try.underlying9 y1) trodAll_mk0)), rfl, bel.frame _, fun h => by cases h⟩
theorem over : Rows.locksPhantomRow.holds Try.pinned (OpenSpec.ofChange Rows.locksPhantomSpec) :=
  OpenClaim.holds_of_wide 3 Try.f3 rfl rfl rfl rfl rfl rfl rfl ⟨rfl, rfl, rfl, rfl, rfl⟩ rfl rfl rfl rfl rfl (by kernel_rfl) Try.func3 (by kernel_rfl)
    (of_decide_eq_true (by kernel_rfl)) (by unfold Func.isWrapper; first | (rw [if_pos (by decide +kernel)]; kernel_rfl) | (rw [if_neg (by decide +kernel)]; exact ⟨rfl, rfl⟩))
    (fun os started H enc _ => lifted os started H enc)
theorem proved : Rows.LocksPhantomSaid := over
end Go.Proofs.Yticcbbcgboddpaa.locksPhantom
namespace Go.Proofs.Yticcbbcgboddpaa
/-- The row, under a short name, for the claim. -/
theorem locksPhantom_holds : Rows.LocksPhantomSaid := locksPhantom.proved
#print axioms locksPhantom_holds
end Go.Proofs.Yticcbbcgboddpaa

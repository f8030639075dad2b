-- PRINTED by print.py (a twelfth state) out of the translation. Not trusted: Lean checks it.
import Derived.Test.YtmekkbhgeijndaaZ0
import Derived.Test.YtmekkbhgeijndaaZ1
import Derived.Test.YtmekkbhgeijndaaZ2
import Derived.Test.YtmekkbhgeijndaaZ3
import Derived.Test.YtmekkbhgeijndaaZ4
import Derived.Test.YtmekkbhgeijndaaZ6
namespace Go.Proofs.Ytmekkbhgeijndaa.Z
open Go.RowKit Go.Proofs.YtmekkbhgeijndaaW.PrintWords Go.Proofs.YtmekkbhgeijndaaW.PrintLast Go.Proofs.YtmekkbhgeijndaaW.PrintMore Go.Proofs.YtmekkbhgeijndaaW.XWords
attribute [local go_sem] xw_geq xw_leq xw_gtr xw_max2 xw_min2 xw_cell_self
attribute [local go_sem] max2_int min2_int max_two min_two max_three min_three max_four min_four   -- for this text's walks alone
set_option linter.unusedVariables false
set_option linter.unusedSimpArgs false

attribute [local go_sem high] eqA31
/-! ### lockkeeperlaw03_SpanOrder: function 7 -/
mutual
def lockkeeperlaw03_SpanOrder.j0 : Nat → Bool → ByteArray → ByteArray → Bool → ByteArray → ByteArray → Bool → ByteArray → ByteArray → Bool → Option (Bool)
  | 0, _, _, _, _, _, _, _, _, _, _ => none
  | k + 1, x21, x259000, x259001, x259002, x260000, x260001, x260002, x261000, x261001, x261002 => if x21 = true then ((lockkeeperlaw03_head.f k).bind fun t262 => (some t262)) else ((span_Both.f k x259000 x259001 x259002 x260000 x260001 x260002).bind fun bt263 => ((span_Both.f k x260000 x260001 x260002 x259000 x259001 x259002).bind fun bt268 => (if (!(bt263.1.toList == bt268.1.toList) || (!(bt263.2.1.toList == bt268.2.1.toList) || (!(bt263.2.2.1 == bt268.2.2.1)))) = true then (lockkeeperlaw03_SpanOrder.j1 k bt263.2.2.2 true x259000 x259001 x259002 x260000 x260001 x260002 x261000 x261001 x261002 bt263.1 bt263.2.1 bt263.2.2.1) else (if (bt263.2.2.2 != bt268.2.2.2) = true then (lockkeeperlaw03_SpanOrder.j1 k bt263.2.2.2 true x259000 x259001 x259002 x260000 x260001 x260002 x261000 x261001 x261002 bt263.1 bt263.2.1 bt263.2.2.1) else (if bt263.2.2.2 = true then ((span_Within.f k bt263.1 bt263.2.1 bt263.2.2.1 x259000 x259001 x259002).bind fun t273 => (if t273 = true then ((span_Within.f k bt263.1 bt263.2.1 bt263.2.2.1 x260000 x260001 x260002).bind fun t274 => (if t274 = true then ((span_Right.f k x259000 x259001 x259002).bind fun t275 => (if t275 = true then ((span_Within.f k x259000 x259001 x259002 x259000 x259001 x259002).bind fun t276 => (lockkeeperlaw03_SpanOrder.j1 k bt263.2.2.2 (!t276) x259000 x259001 x259002 x260000 x260001 x260002 x261000 x261001 x261002 bt263.1 bt263.2.1 bt263.2.2.1)) else (lockkeeperlaw03_SpanOrder.j1 k bt263.2.2.2 false x259000 x259001 x259002 x260000 x260001 x260002 x261000 x261001 x261002 bt263.1 bt263.2.1 bt263.2.2.1))) else (lockkeeperlaw03_SpanOrder.j1 k bt263.2.2.2 true x259000 x259001 x259002 x260000 x260001 x260002 x261000 x261001 x261002 bt263.1 bt263.2.1 bt263.2.2.1))) else (lockkeeperlaw03_SpanOrder.j1 k bt263.2.2.2 true x259000 x259001 x259002 x260000 x260001 x260002 x261000 x261001 x261002 bt263.1 bt263.2.1 bt263.2.2.1))) else ((span_Right.f k x259000 x259001 x259002).bind fun t277 => (if t277 = true then ((span_Within.f k x259000 x259001 x259002 x259000 x259001 x259002).bind fun t278 => (lockkeeperlaw03_SpanOrder.j1 k bt263.2.2.2 (!t278) x259000 x259001 x259002 x260000 x260001 x260002 x261000 x261001 x261002 bt263.1 bt263.2.1 bt263.2.2.1)) else (lockkeeperlaw03_SpanOrder.j1 k bt263.2.2.2 false x259000 x259001 x259002 x260000 x260001 x260002 x261000 x261001 x261002 bt263.1 bt263.2.1 bt263.2.2.1))))))))
def lockkeeperlaw03_SpanOrder.j1 : Nat → Bool → Bool → ByteArray → ByteArray → Bool → ByteArray → ByteArray → Bool → ByteArray → ByteArray → Bool → ByteArray → ByteArray → Bool → Option (Bool)
  | 0, _, _, _, _, _, _, _, _, _, _, _, _, _, _ => none
  | k + 1, x8, x67, x259000, x259001, x259002, x260000, x260001, x260002, x261000, x261001, x261002, x268000, x268001, x268002 => if x67 = true then (none) else ((span_Within.f k x259000 x259001 x259002 x260000 x260001 x260002).bind fun t279 => (if t279 = true then ((span_Within.f k x260000 x260001 x260002 x261000 x261001 x261002).bind fun t280 => (if t280 = true then ((span_Within.f k x259000 x259001 x259002 x261000 x261001 x261002).bind fun t281 => (lockkeeperlaw03_SpanOrder.j2 k x8 (!t281) x259000 x259001 x259002 x260000 x260001 x260002 x268000 x268001 x268002)) else (lockkeeperlaw03_SpanOrder.j2 k x8 false x259000 x259001 x259002 x260000 x260001 x260002 x268000 x268001 x268002))) else (lockkeeperlaw03_SpanOrder.j2 k x8 false x259000 x259001 x259002 x260000 x260001 x260002 x268000 x268001 x268002)))
def lockkeeperlaw03_SpanOrder.j2 : Nat → Bool → Bool → ByteArray → ByteArray → Bool → ByteArray → ByteArray → Bool → ByteArray → ByteArray → Bool → Option (Bool)
  | 0, _, _, _, _, _, _, _, _, _, _, _ => none
  | k + 1, x8, x81, x259000, x259001, x259002, x260000, x260001, x260002, x268000, x268001, x268002 => if x81 = true then (none) else ((span_Within.f k x259000 x259001 x259002 x260000 x260001 x260002).bind fun t282 => (if x8 = true then (if (t282 == (x268000.toList == x259000.toList && (x268001.toList == x259001.toList && (x268002 == x259002)))) = true then ((lockkeeperlaw03_head.f k).bind fun t283 => (some t283)) else (none)) else (if t282 = true then (none) else ((lockkeeperlaw03_head.f k).bind fun t284 => (some t284)))))
end
def lockkeeperlaw03_SpanOrder.f (k : Nat) (a0_0 : ByteArray) (a0_1 : ByteArray) (a0_2 : Bool) (a1_0 : ByteArray) (a1_1 : ByteArray) (a1_2 : Bool) (a2_0 : ByteArray) (a2_1 : ByteArray) (a2_2 : Bool) : Option (Bool) := (lockkeeperlaw03_great.f a0_0 a0_1 a0_2 a1_0 a1_1 a1_2 a2_0).bind fun t261 => (if t261 = true then (lockkeeperlaw03_SpanOrder.j0 k true a0_0 a0_1 a0_2 a1_0 a1_1 a1_2 a2_0 a2_1 a2_2) else (lockkeeperlaw03_SpanOrder.j0 k (decide ((a2_1.size : Int) > 2000)) a0_0 a0_1 a0_2 a1_0 a1_1 a1_2 a2_0 a2_1 a2_2))
theorem lockkeeperlaw03_SpanOrder.mono_l : ∀ k, (∀ y0 y1 y2 y3 y4 y5 y6 y7 y8 y9, LeO (lockkeeperlaw03_SpanOrder.j0 k y0 y1 y2 y3 y4 y5 y6 y7 y8 y9) (lockkeeperlaw03_SpanOrder.j0 (k + 1) y0 y1 y2 y3 y4 y5 y6 y7 y8 y9)) ∧ (∀ y0 y1 y2 y3 y4 y5 y6 y7 y8 y9 y10 y11 y12 y13, LeO (lockkeeperlaw03_SpanOrder.j1 k y0 y1 y2 y3 y4 y5 y6 y7 y8 y9 y10 y11 y12 y13) (lockkeeperlaw03_SpanOrder.j1 (k + 1) y0 y1 y2 y3 y4 y5 y6 y7 y8 y9 y10 y11 y12 y13)) ∧ (∀ y0 y1 y2 y3 y4 y5 y6 y7 y8 y9 y10, LeO (lockkeeperlaw03_SpanOrder.j2 k y0 y1 y2 y3 y4 y5 y6 y7 y8 y9 y10) (lockkeeperlaw03_SpanOrder.j2 (k + 1) y0 y1 y2 y3 y4 y5 y6 y7 y8 y9 y10))
  | 0 => ⟨fun _ _ _ _ _ _ _ _ _ _ r h => by simp [lockkeeperlaw03_SpanOrder.j0] at h, fun _ _ _ _ _ _ _ _ _ _ _ _ _ _ r h => by simp [lockkeeperlaw03_SpanOrder.j1] at h, fun _ _ _ _ _ _ _ _ _ _ _ r h => by simp [lockkeeperlaw03_SpanOrder.j2] at h⟩
  | k + 1 => by
    obtain ⟨ih0, ih1, ih2⟩ := lockkeeperlaw03_SpanOrder.mono_l k
    refine ⟨?_, ?_, ?_⟩
    · intro y0 y1 y2 y3 y4 y5 y6 y7 y8 y9
      unfold lockkeeperlaw03_SpanOrder.j0
      repeat' first
      | (with_reducible exact ih0 _ _ _ _ _ _ _ _ _ _)
      | (with_reducible exact ih1 _ _ _ _ _ _ _ _ _ _ _ _ _ _)
      | (with_reducible exact ih2 _ _ _ _ _ _ _ _ _ _ _)
      | (with_reducible exact lockkeeperlaw03_head.mono _)
      | (with_reducible exact span_Both.mono _ _ _ _ _ _ _)
      | (with_reducible exact span_Right.mono _ _ _ _)
      | (with_reducible exact span_Within.mono _ _ _ _ _ _ _)
      | (with_reducible exact LeO.refl _)
      | (with_reducible exact LeO.none _)
      | (with_reducible refine LeO.ite ?_ ?_)
      | (with_reducible refine LeO.bind ?_ (fun _ => ?_))
      | exact ih0 _ _ _ _ _ _ _ _ _ _
      | exact ih1 _ _ _ _ _ _ _ _ _ _ _ _ _ _
      | exact ih2 _ _ _ _ _ _ _ _ _ _ _
      | exact lockkeeperlaw03_head.mono _
      | exact span_Both.mono _ _ _ _ _ _ _
      | exact span_Right.mono _ _ _ _
      | exact span_Within.mono _ _ _ _ _ _ _
      | exact LeO.none _
      | refine LeO.ite ?_ ?_
      | refine LeO.bind ?_ (fun _ => ?_)
    · intro y0 y1 y2 y3 y4 y5 y6 y7 y8 y9 y10 y11 y12 y13
      unfold lockkeeperlaw03_SpanOrder.j1
      repeat' first
      | (with_reducible exact ih0 _ _ _ _ _ _ _ _ _ _)
      | (with_reducible exact ih1 _ _ _ _ _ _ _ _ _ _ _ _ _ _)
      | (with_reducible exact ih2 _ _ _ _ _ _ _ _ _ _ _)
      | (with_reducible exact lockkeeperlaw03_head.mono _)
      | (with_reducible exact span_Both.mono _ _ _ _ _ _ _)
      | (with_reducible exact span_Right.mono _ _ _ _)
      | (with_reducible exact span_Within.mono _ _ _ _ _ _ _)
      | (with_reducible exact LeO.refl _)
      | (with_reducible exact LeO.none _)
      | (with_reducible refine LeO.ite ?_ ?_)
      | (with_reducible refine LeO.bind ?_ (fun _ => ?_))
      | exact ih0 _ _ _ _ _ _ _ _ _ _
      | exact ih1 _ _ _ _ _ _ _ _ _ _ _ _ _ _
      | exact ih2 _ _ _ _ _ _ _ _ _ _ _
      | exact lockkeeperlaw03_head.mono _
      | exact span_Both.mono _ _ _ _ _ _ _
      | exact span_Right.mono _ _ _ _
      | exact span_Within.mono _ _ _ _ _ _ _
      | exact LeO.none _
      | refine LeO.ite ?_ ?_
      | refine LeO.bind ?_ (fun _ => ?_)
    · intro y0 y1 y2 y3 y4 y5 y6 y7 y8 y9 y10
      unfold lockkeeperlaw03_SpanOrder.j2
      repeat' first
      | (with_reducible exact ih0 _ _ _ _ _ _ _ _ _ _)
      | (with_reducible exact ih1 _ _ _ _ _ _ _ _ _ _ _ _ _ _)
      | (with_reducible exact ih2 _ _ _ _ _ _ _ _ _ _ _)
      | (with_reducible exact lockkeeperlaw03_head.mono _)
      | (with_reducible exact span_Both.mono _ _ _ _ _ _ _)
      | (with_reducible exact span_Right.mono _ _ _ _)
      | (with_reducible exact span_Within.mono _ _ _ _ _ _ _)
      | (with_reducible exact LeO.refl _)
      | (with_reducible exact LeO.none _)
      | (with_reducible refine LeO.ite ?_ ?_)
      | (with_reducible refine LeO.bind ?_ (fun _ => ?_))
      | exact ih0 _ _ _ _ _ _ _ _ _ _
      | exact ih1 _ _ _ _ _ _ _ _ _ _ _ _ _ _
      | exact ih2 _ _ _ _ _ _ _ _ _ _ _
      | exact lockkeeperlaw03_head.mono _
      | exact span_Both.mono _ _ _ _ _ _ _
      | exact span_Right.mono _ _ _ _
      | exact span_Within.mono _ _ _ _ _ _ _
      | exact LeO.none _
      | refine LeO.ite ?_ ?_
      | refine LeO.bind ?_ (fun _ => ?_)
theorem lockkeeperlaw03_SpanOrder.mono : ∀ a0 a1 a2 a3 a4 a5 a6 a7 a8 k, LeO (lockkeeperlaw03_SpanOrder.f k a0 a1 a2 a3 a4 a5 a6 a7 a8) (lockkeeperlaw03_SpanOrder.f (k + 1) a0 a1 a2 a3 a4 a5 a6 a7 a8) := by
  intro a0 a1 a2 a3 a4 a5 a6 a7 a8 k
  obtain ⟨ih0, ih1, ih2⟩ := lockkeeperlaw03_SpanOrder.mono_l k
  unfold lockkeeperlaw03_SpanOrder.f
  repeat' first
      | (with_reducible exact ih0 _ _ _ _ _ _ _ _ _ _)
      | (with_reducible exact ih1 _ _ _ _ _ _ _ _ _ _ _ _ _ _)
      | (with_reducible exact ih2 _ _ _ _ _ _ _ _ _ _ _)
      | (with_reducible exact lockkeeperlaw03_head.mono _)
      | (with_reducible exact span_Both.mono _ _ _ _ _ _ _)
      | (with_reducible exact span_Right.mono _ _ _ _)
      | (with_reducible exact span_Within.mono _ _ _ _ _ _ _)
      | (with_reducible exact LeO.refl _)
      | (with_reducible exact LeO.none _)
      | (with_reducible refine LeO.ite ?_ ?_)
      | (with_reducible refine LeO.bind ?_ (fun _ => ?_))
      | exact ih0 _ _ _ _ _ _ _ _ _ _
      | exact ih1 _ _ _ _ _ _ _ _ _ _ _ _ _ _
      | exact ih2 _ _ _ _ _ _ _ _ _ _ _
      | exact lockkeeperlaw03_head.mono _
      | exact span_Both.mono _ _ _ _ _ _ _
      | exact span_Right.mono _ _ _ _
      | exact span_Within.mono _ _ _ _ _ _ _
      | exact LeO.none _
      | refine LeO.ite ?_ ?_
      | refine LeO.bind ?_ (fun _ => ?_)
set_option maxHeartbeats 8000000 in
set_option maxRecDepth 100000 in
theorem lockkeeperlaw03_SpanOrder.calls (k : Nat) (a0_0 : ByteArray) (a0_1 : ByteArray) (a0_2 : Bool) (a1_0 : ByteArray) (a1_1 : ByteArray) (a1_2 : Bool) (a2_0 : ByteArray) (a2_1 : ByteArray) (a2_2 : Bool) (r : Bool) (w : World) (h : lockkeeperlaw03_SpanOrder.f k a0_0 a0_1 a0_2 a1_0 a1_1 a1_2 a2_0 a2_1 a2_2 = some r) :
    Calls Try.prog 7 #[.agg #[.string a0_0, .string a0_1, .bool a0_2], .agg #[.string a1_0, .string a1_1, .bool a1_2], .agg #[.string a2_0, .string a2_1, .bool a2_2]] w fun e w' => e = .returned (.bool r) ∧ Below w.heap.size w w' := by
  have hu31 := Try.underlying31
  have HB := Aside0.mk (Below.refl w.heap.size w)
  have H : ((lockkeeperlaw03_great.f a0_0 a0_1 a0_2 a1_0 a1_1 a1_2 a2_0).bind fun t261 => (if t261 = true then (lockkeeperlaw03_SpanOrder.j0 k true a0_0 a0_1 a0_2 a1_0 a1_1 a1_2 a2_0 a2_1 a2_2) else (lockkeeperlaw03_SpanOrder.j0 k (decide ((a2_1.size : Int) > 2000)) a0_0 a0_1 a0_2 a1_0 a1_1 a1_2 a2_0 a2_1 a2_2))) = some r := h
  clear h
  have HC4 := Aside0.mk H
  clear H
  go_enter Try.func7, Try.ntmps7
  go_upto_region 1 with (first | ((with_reducible refine gate_dst (N := 3) rfl ?_); (try (refine gate_guard (by rfl) ?_; dsimp only)); refine box_event ?hg (N := 3) ?hd (cs := #[.string a0_0, .string a0_1, .bool a0_2]) (t := 31) ?hr ?_; (case hd => rfl); (case hg => rfl); (case hr => first | (go_simp; done) | (go_simp; rfl)); intro gb258 hg w5 hbox hb; have n0_ := Aside0.mk (below_step (by repeat (first | (with_reducible first | exact HB.out | apply below_alloc | apply pw_below_drewN | apply below_drew1) | exact HB.out)) hb); have n1_ := Aside0.mk (hbox); have n2_ := Aside0.mk ((by rw [hg]; exact (below_size (by repeat (first | (with_reducible first | exact HB.out | apply below_alloc | apply pw_below_drewN | apply below_drew1) | exact HB.out))) : w.heap.size ≤ gb258)); have n3_ := Aside0.mk ((by rw [hg]; exact (below_size (by repeat (first | (with_reducible first | exact HB.out | apply below_alloc | apply pw_below_drewN | apply below_drew1) | exact HB.out))) : w.heap.size ≤ gb258)); clear HB; have HB := n0_; have BK258 := n1_; have GW258 := n2_; have GE258 := n3_; clear n0_ n1_ n2_ n3_; clear hb hbox hg) | ((with_reducible refine gate_dst (N := 4) rfl ?_); (try (refine gate_guard (by rfl) ?_; dsimp only)); refine box_event ?hg (N := 4) ?hd (cs := #[.string a1_0, .string a1_1, .bool a1_2]) (t := 31) ?hr ?_; (case hd => rfl); (case hg => rfl); (case hr => first | (go_simp; done) | (go_simp; rfl)); intro gb259 hg w6 hbox hb; have n0_ := Aside0.mk (blk_below (g := gb258) (o := .cells #[.string a0_0, .string a0_1, .bool a0_2] 31 (0, 0)) (by (with_reducible repeat (first | refine blk_drewN ?_ _ | refine blk_drew ?_ | refine blk_alloc ?_ _)); exact BK258.out) hb); have n1_ := Aside0.mk (below_step (by repeat (first | (with_reducible first | exact HB.out | apply below_alloc | apply pw_below_drewN | apply below_drew1 | refine below_set ?_ GE258.out) | exact HB.out)) hb); have n2_ := Aside0.mk (hbox); have n3_ := Aside0.mk ((by rw [hg]; exact (below_size (by repeat (first | (with_reducible first | exact HB.out | apply below_alloc | apply pw_below_drewN | apply below_drew1 | refine below_set ?_ GE258.out) | exact HB.out))) : w.heap.size ≤ gb259)); have n4_ := Aside0.mk ((by rw [hg]; exact (below_size (by repeat (first | (with_reducible first | exact HB.out | apply below_alloc | apply pw_below_drewN | apply below_drew1 | refine below_set ?_ GE258.out) | exact HB.out))) : w.heap.size ≤ gb259)); have n5_ := Aside0.mk ((by rw [hg]; exact Nat.ne_of_lt (blk_lt (g := gb258) (o := .cells #[.string a0_0, .string a0_1, .bool a0_2] 31 (0, 0)) (by (with_reducible repeat (first | refine blk_drewN ?_ _ | refine blk_drew ?_ | refine blk_alloc ?_ _)); exact BK258.out)) : gb258 ≠ gb259)); have n6_ := Aside0.mk ((by rw [hg]; exact Nat.ne_of_gt (blk_lt (g := gb258) (o := .cells #[.string a0_0, .string a0_1, .bool a0_2] 31 (0, 0)) (by (with_reducible repeat (first | refine blk_drewN ?_ _ | refine blk_drew ?_ | refine blk_alloc ?_ _)); exact BK258.out)) : gb259 ≠ gb258)); clear BK258; clear HB; have BK258 := n0_; have HB := n1_; have BK259 := n2_; have GW259 := n3_; have GE259 := n4_; have NB258_259 := n5_; have NB259_258 := n6_; clear n0_ n1_ n2_ n3_ n4_ n5_ n6_; clear hb hbox hg) | ((with_reducible refine gate_dst (N := 5) rfl ?_); (try (refine gate_guard (by rfl) ?_; dsimp only)); refine box_event ?hg (N := 5) ?hd (cs := #[.string a2_0, .string a2_1, .bool a2_2]) (t := 31) ?hr ?_; (case hd => rfl); (case hg => rfl); (case hr => first | (go_simp; done) | (go_simp; rfl)); intro gb260 hg w7 hbox hb; have n0_ := Aside0.mk (blk_below (g := gb258) (o := .cells #[.string a0_0, .string a0_1, .bool a0_2] 31 (0, 0)) (by (with_reducible repeat (first | refine blk_drewN ?_ _ | refine blk_drew ?_ | refine blk_alloc ?_ _)); exact BK258.out) hb); have n1_ := Aside0.mk (blk_below (g := gb259) (o := .cells #[.string a1_0, .string a1_1, .bool a1_2] 31 (0, 0)) (by (with_reducible repeat (first | refine blk_drewN ?_ _ | refine blk_drew ?_ | refine blk_alloc ?_ _)); exact BK259.out) hb); have n2_ := Aside0.mk (below_step (by repeat (first | (with_reducible first | exact HB.out | apply below_alloc | apply pw_below_drewN | apply below_drew1 | refine below_set ?_ GE258.out | refine below_set ?_ GE259.out) | exact HB.out)) hb); have n3_ := Aside0.mk (hbox); have n4_ := Aside0.mk ((by rw [hg]; exact (below_size (by repeat (first | (with_reducible first | exact HB.out | apply below_alloc | apply pw_below_drewN | apply below_drew1 | refine below_set ?_ GE258.out | refine below_set ?_ GE259.out) | exact HB.out))) : w.heap.size ≤ gb260)); have n5_ := Aside0.mk ((by rw [hg]; exact (below_size (by repeat (first | (with_reducible first | exact HB.out | apply below_alloc | apply pw_below_drewN | apply below_drew1 | refine below_set ?_ GE258.out | refine below_set ?_ GE259.out) | exact HB.out))) : w.heap.size ≤ gb260)); have n6_ := Aside0.mk ((by rw [hg]; exact Nat.ne_of_lt (blk_lt (g := gb258) (o := .cells #[.string a0_0, .string a0_1, .bool a0_2] 31 (0, 0)) (by (with_reducible repeat (first | refine blk_drewN ?_ _ | refine blk_drew ?_ | refine blk_alloc ?_ _)); exact BK258.out)) : gb258 ≠ gb260)); have n7_ := Aside0.mk ((by rw [hg]; exact Nat.ne_of_gt (blk_lt (g := gb258) (o := .cells #[.string a0_0, .string a0_1, .bool a0_2] 31 (0, 0)) (by (with_reducible repeat (first | refine blk_drewN ?_ _ | refine blk_drew ?_ | refine blk_alloc ?_ _)); exact BK258.out)) : gb260 ≠ gb258)); have n8_ := Aside0.mk ((by rw [hg]; exact Nat.ne_of_lt (blk_lt (g := gb259) (o := .cells #[.string a1_0, .string a1_1, .bool a1_2] 31 (0, 0)) (by (with_reducible repeat (first | refine blk_drewN ?_ _ | refine blk_drew ?_ | refine blk_alloc ?_ _)); exact BK259.out)) : gb259 ≠ gb260)); have n9_ := Aside0.mk ((by rw [hg]; exact Nat.ne_of_gt (blk_lt (g := gb259) (o := .cells #[.string a1_0, .string a1_1, .bool a1_2] 31 (0, 0)) (by (with_reducible repeat (first | refine blk_drewN ?_ _ | refine blk_drew ?_ | refine blk_alloc ?_ _)); exact BK259.out)) : gb260 ≠ gb259)); clear BK258; clear BK259; clear HB; have BK258 := n0_; have BK259 := n1_; have HB := n2_; have BK260 := n3_; have GW260 := n4_; have GE260 := n5_; have NB258_260 := n6_; have NB260_258 := n7_; have NB259_260 := n8_; have NB260_259 := n9_; clear n0_ n1_ n2_ n3_ n4_ n5_ n6_ n7_ n8_ n9_; clear hb hbox hg))
  (try simp only [Act.put, List.setIfInBounds_toArray, List.set_cons_zero, List.set_cons_succ])
  go_cut [21] (fun v21 wc => ∃ (kq : Nat) (x21_3 : Bool), v21 = .bool x21_3 ∧ Aside0 (lockkeeperlaw03_SpanOrder.j0 kq x21_3 a0_0 a0_1 a0_2 a1_0 a1_1 a1_2 a2_0 a2_1 a2_2 = some r) ∧ Aside0 (kq ≤ k) ∧ Aside0 (wc.heap[gb258]? = some (.cells #[.string a0_0, .string a0_1, .bool a0_2] 31 (0, 0))) ∧ Aside0 (wc.heap[gb259]? = some (.cells #[.string a1_0, .string a1_1, .bool a1_2] 31 (0, 0))) ∧ Aside0 (wc.heap[gb260]? = some (.cells #[.string a2_0, .string a2_1, .bool a2_2] 31 (0, 0))) ∧ Aside0 (Below w.heap.size w wc))
  case first =>
    have H := HC4.out
    clear HC4
    replace H := Option.bind_eq_some_iff.mp H
    obtain ⟨t261, A80, H⟩ := H
    replace H : (if t261 = true then (lockkeeperlaw03_SpanOrder.j0 k true a0_0 a0_1 a0_2 a1_0 a1_1 a1_2 a2_0 a2_1 a2_2) else (lockkeeperlaw03_SpanOrder.j0 k (decide ((a2_1.size : Int) > 2000)) a0_0 a0_1 a0_2 a1_0 a1_1 a1_2 a2_0 a2_1 a2_2)) = some r := H
    have A8 := Aside0.mk A80
    clear A80
    by_cases c9 : t261 = true
    · subst c9
      have H1 : (lockkeeperlaw03_SpanOrder.j0 k true a0_0 a0_1 a0_2 a1_0 a1_1 a1_2 a2_0 a2_1 a2_2) = some r := by rw [if_pos rfl] at H; exact H
      clear H
      have H := H1
      clear H1
      have H' := Aside0.mk H
      clear H
      have hnb10 := NB258_259.out
      have hnc10 := NB259_258.out
      have hnb11 := NB258_260.out
      have hnc11 := NB260_258.out
      have hcz12_0 : w7.cell? ⟨gb258, 0, none⟩ = some (.string a0_0) := (blk_cell BK258.out 0).trans rfl
      have hcz12_1 : w7.cell? ⟨gb258, 1, none⟩ = some (.string a0_1) := (blk_cell BK258.out 1).trans rfl
      have hcz12_2 : w7.cell? ⟨gb258, 2, none⟩ = some (.bool a0_2) := (blk_cell BK258.out 2).trans rfl
      have hfz12_0 := blk_frozen BK258.out 0
      have hfz12_1 := blk_frozen BK258.out 1
      have hfz12_2 := blk_frozen BK258.out 2
      have hnb13 := NB259_260.out
      have hnc13 := NB260_259.out
      have hcz14_0 : w7.cell? ⟨gb259, 0, none⟩ = some (.string a1_0) := (blk_cell BK259.out 0).trans rfl
      have hcz14_1 : w7.cell? ⟨gb259, 1, none⟩ = some (.string a1_1) := (blk_cell BK259.out 1).trans rfl
      have hcz14_2 : w7.cell? ⟨gb259, 2, none⟩ = some (.bool a1_2) := (blk_cell BK259.out 2).trans rfl
      have hfz14_0 := blk_frozen BK259.out 0
      have hfz14_1 := blk_frozen BK259.out 1
      have hfz14_2 := blk_frozen BK259.out 2
      have hcz15_0 : w7.cell? ⟨gb260, 0, none⟩ = some (.string a2_0) := (blk_cell BK260.out 0).trans rfl
      have hcz15_1 : w7.cell? ⟨gb260, 1, none⟩ = some (.string a2_1) := (blk_cell BK260.out 1).trans rfl
      have hcz15_2 : w7.cell? ⟨gb260, 2, none⟩ = some (.bool a2_2) := (blk_cell BK260.out 2).trans rfl
      have hfz15_0 := blk_frozen BK260.out 0
      have hfz15_1 := blk_frozen BK260.out 1
      have hfz15_2 := blk_frozen BK260.out 2
      go_wp2_with (first | ((with_reducible refine gate_callee (f := 14) rfl ?_); refine goesL_ (some 15) rfl rfl Try.func14 (by kernel_rfl) rfl #[.agg #[.string a0_0, .string a0_1, .bool a0_2], .agg #[.string a1_0, .string a1_1, .bool a1_2], .string a2_0] rfl (by (try simp only [List.map_toArray, List.map_cons, List.map_nil]); first | done | rfl | (simp only [List.length_drop, List.length_take]; rfl)) ?_; (with_reducible refine (lockkeeperlaw03_great.calls a0_0 a0_1 a0_2 a1_0 a1_1 a1_2 a2_0 true _ A8.out).mono ?_); rintro e w16 ⟨rfl, hb⟩; refine ⟨_, rfl, ?_⟩; have n0_ := Aside0.mk (blk_below (g := gb258) (o := .cells #[.string a0_0, .string a0_1, .bool a0_2] 31 (0, 0)) (by (with_reducible repeat (first | refine blk_drewN ?_ _ | refine blk_drew ?_ | refine blk_alloc ?_ _)); exact BK258.out) hb); have n1_ := Aside0.mk (blk_below (g := gb259) (o := .cells #[.string a1_0, .string a1_1, .bool a1_2] 31 (0, 0)) (by (with_reducible repeat (first | refine blk_drewN ?_ _ | refine blk_drew ?_ | refine blk_alloc ?_ _)); exact BK259.out) hb); have n2_ := Aside0.mk (blk_below (g := gb260) (o := .cells #[.string a2_0, .string a2_1, .bool a2_2] 31 (0, 0)) (by (with_reducible repeat (first | refine blk_drewN ?_ _ | refine blk_drew ?_ | refine blk_alloc ?_ _)); exact BK260.out) hb); have n3_ := Aside0.mk (below_step (by repeat (first | (with_reducible first | exact HB.out | apply below_alloc | apply pw_below_drewN | apply below_drew1 | refine below_set ?_ GE258.out | refine below_set ?_ GE259.out | refine below_set ?_ GE260.out) | exact HB.out)) hb); clear BK258; clear BK259; clear BK260; clear HB; have BK258 := n0_; have BK259 := n1_; have BK260 := n2_; have HB := n3_; clear n0_ n1_ n2_ n3_; (try clear hb); (try clear hb2); (try clear hk); (try clear hi)))
      go_meet
      case rel => exact ⟨_, (true), (by first | rfl | (simp; done) | (simp [*]; done)), H', ⟨by first | omega | exact Nat.le_refl _⟩, ⟨by (with_reducible repeat (first | refine blk_drewN ?_ _ | refine blk_drew ?_ | refine blk_alloc ?_ _)); exact BK258.out⟩, ⟨by (with_reducible repeat (first | refine blk_drewN ?_ _ | refine blk_drew ?_ | refine blk_alloc ?_ _)); exact BK259.out⟩, ⟨by (with_reducible repeat (first | refine blk_drewN ?_ _ | refine blk_drew ?_ | refine blk_alloc ?_ _)); exact BK260.out⟩, ⟨by repeat (first | (with_reducible first | exact HB.out | apply below_alloc | apply pw_below_drewN | apply below_drew1 | refine below_set ?_ GE258.out | refine below_set ?_ GE259.out | refine below_set ?_ GE260.out) | exact HB.out)⟩⟩
    · replace c9 := Bool.eq_false_iff.mpr c9
      subst c9
      have H1 : (lockkeeperlaw03_SpanOrder.j0 k (decide ((a2_1.size : Int) > 2000)) a0_0 a0_1 a0_2 a1_0 a1_1 a1_2 a2_0 a2_1 a2_2) = some r := by rw [if_neg (show ¬ (false = true) by decide)] at H; exact H
      clear H
      have H := H1
      clear H1
      have H' := Aside0.mk H
      clear H
      have hnb17 := NB258_259.out
      have hnc17 := NB259_258.out
      have hnb18 := NB258_260.out
      have hnc18 := NB260_258.out
      have hcz19_0 : w7.cell? ⟨gb258, 0, none⟩ = some (.string a0_0) := (blk_cell BK258.out 0).trans rfl
      have hcz19_1 : w7.cell? ⟨gb258, 1, none⟩ = some (.string a0_1) := (blk_cell BK258.out 1).trans rfl
      have hcz19_2 : w7.cell? ⟨gb258, 2, none⟩ = some (.bool a0_2) := (blk_cell BK258.out 2).trans rfl
      have hfz19_0 := blk_frozen BK258.out 0
      have hfz19_1 := blk_frozen BK258.out 1
      have hfz19_2 := blk_frozen BK258.out 2
      have hnb20 := NB259_260.out
      have hnc20 := NB260_259.out
      have hcz21_0 : w7.cell? ⟨gb259, 0, none⟩ = some (.string a1_0) := (blk_cell BK259.out 0).trans rfl
      have hcz21_1 : w7.cell? ⟨gb259, 1, none⟩ = some (.string a1_1) := (blk_cell BK259.out 1).trans rfl
      have hcz21_2 : w7.cell? ⟨gb259, 2, none⟩ = some (.bool a1_2) := (blk_cell BK259.out 2).trans rfl
      have hfz21_0 := blk_frozen BK259.out 0
      have hfz21_1 := blk_frozen BK259.out 1
      have hfz21_2 := blk_frozen BK259.out 2
      have hcz22_0 : w7.cell? ⟨gb260, 0, none⟩ = some (.string a2_0) := (blk_cell BK260.out 0).trans rfl
      have hcz22_1 : w7.cell? ⟨gb260, 1, none⟩ = some (.string a2_1) := (blk_cell BK260.out 1).trans rfl
      have hcz22_2 : w7.cell? ⟨gb260, 2, none⟩ = some (.bool a2_2) := (blk_cell BK260.out 2).trans rfl
      have hfz22_0 := blk_frozen BK260.out 0
      have hfz22_1 := blk_frozen BK260.out 1
      have hfz22_2 := blk_frozen BK260.out 2
      go_wp2_with (first | ((with_reducible refine gate_callee (f := 14) rfl ?_); refine goesL_ (some 15) rfl rfl Try.func14 (by kernel_rfl) rfl #[.agg #[.string a0_0, .string a0_1, .bool a0_2], .agg #[.string a1_0, .string a1_1, .bool a1_2], .string a2_0] rfl (by (try simp only [List.map_toArray, List.map_cons, List.map_nil]); first | done | rfl | (simp only [List.length_drop, List.length_take]; rfl)) ?_; (with_reducible refine (lockkeeperlaw03_great.calls a0_0 a0_1 a0_2 a1_0 a1_1 a1_2 a2_0 false _ A8.out).mono ?_); rintro e w23 ⟨rfl, hb⟩; refine ⟨_, rfl, ?_⟩; have n0_ := Aside0.mk (blk_below (g := gb258) (o := .cells #[.string a0_0, .string a0_1, .bool a0_2] 31 (0, 0)) (by (with_reducible repeat (first | refine blk_drewN ?_ _ | refine blk_drew ?_ | refine blk_alloc ?_ _)); exact BK258.out) hb); have n1_ := Aside0.mk (blk_below (g := gb259) (o := .cells #[.string a1_0, .string a1_1, .bool a1_2] 31 (0, 0)) (by (with_reducible repeat (first | refine blk_drewN ?_ _ | refine blk_drew ?_ | refine blk_alloc ?_ _)); exact BK259.out) hb); have n2_ := Aside0.mk (blk_below (g := gb260) (o := .cells #[.string a2_0, .string a2_1, .bool a2_2] 31 (0, 0)) (by (with_reducible repeat (first | refine blk_drewN ?_ _ | refine blk_drew ?_ | refine blk_alloc ?_ _)); exact BK260.out) hb); have n3_ := Aside0.mk (below_step (by repeat (first | (with_reducible first | exact HB.out | apply below_alloc | apply pw_below_drewN | apply below_drew1 | refine below_set ?_ GE258.out | refine below_set ?_ GE259.out | refine below_set ?_ GE260.out) | exact HB.out)) hb); clear BK258; clear BK259; clear BK260; clear HB; have BK258 := n0_; have BK259 := n1_; have BK260 := n2_; have HB := n3_; clear n0_ n1_ n2_ n3_; (try clear hb); (try clear hb2); (try clear hk); (try clear hi); have hcz24_0 : w23.cell? ⟨gb260, 0, none⟩ = some (.string a2_0) := (blk_cell BK260.out 0).trans rfl; have hcz24_1 : w23.cell? ⟨gb260, 1, none⟩ = some (.string a2_1) := (blk_cell BK260.out 1).trans rfl; have hcz24_2 : w23.cell? ⟨gb260, 2, none⟩ = some (.bool a2_2) := (blk_cell BK260.out 2).trans rfl; have hfz24_0 := blk_frozen BK260.out 0; have hfz24_1 := blk_frozen BK260.out 1; have hfz24_2 := blk_frozen BK260.out 2))
      go_meet
      case rel => exact ⟨_, (decide ((a2_1.size : Int) > 2000)), (by first | rfl | (simp; done) | (simp [*]; done)), H', ⟨by first | omega | exact Nat.le_refl _⟩, ⟨by (with_reducible repeat (first | refine blk_drewN ?_ _ | refine blk_drew ?_ | refine blk_alloc ?_ _)); exact BK258.out⟩, ⟨by (with_reducible repeat (first | refine blk_drewN ?_ _ | refine blk_drew ?_ | refine blk_alloc ?_ _)); exact BK259.out⟩, ⟨by (with_reducible repeat (first | refine blk_drewN ?_ _ | refine blk_drew ?_ | refine blk_alloc ?_ _)); exact BK260.out⟩, ⟨by repeat (first | (with_reducible first | exact HB.out | apply below_alloc | apply pw_below_drewN | apply below_drew1 | refine below_set ?_ GE258.out | refine below_set ?_ GE259.out | refine below_set ?_ GE260.out) | exact HB.out)⟩⟩
  case rest =>
    clear HC4
    try clear c1
    try clear c2
    try clear p2
    try clear c7
    try clear c9
    try clear c10
    try clear c11
    try clear c13
    try clear c14
    try clear c17
    try clear c18
    try clear c20
    try clear hcz12_0
    try clear hcz12_1
    try clear hcz12_2
    try clear hcz14_0
    try clear hcz14_1
    try clear hcz14_2
    try clear hcz15_0
    try clear hcz15_1
    try clear hcz15_2
    try clear hcz19_0
    try clear hcz19_1
    try clear hcz19_2
    try clear hcz21_0
    try clear hcz21_1
    try clear hcz21_2
    try clear hcz22_0
    try clear hcz22_1
    try clear hcz22_2
    try clear hcz24_0
    try clear hcz24_1
    try clear hcz24_2
    try clear hfz12_0
    try clear hfz12_1
    try clear hfz12_2
    try clear hfz14_0
    try clear hfz14_1
    try clear hfz14_2
    try clear hfz15_0
    try clear hfz15_1
    try clear hfz15_2
    try clear hfz19_0
    try clear hfz19_1
    try clear hfz19_2
    try clear hfz21_0
    try clear hfz21_1
    try clear hfz21_2
    try clear hfz22_0
    try clear hfz22_1
    try clear hfz22_2
    try clear hfz24_0
    try clear hfz24_1
    try clear hfz24_2
    obtain ⟨kq, x21_3, rfl, HA, HJ3, BK258, BK259, BK260, HB⟩ := hcut
    cases kq with
    | zero => exact absurd HA.out (by simp [lockkeeperlaw03_SpanOrder.j0])
    | succ kj3 =>
      have H := HA.out
      clear HA
      simp only [lockkeeperlaw03_SpanOrder.j0] at H
      by_cases c25 : x21_3 = true
      · subst c25
        have H1 : ((lockkeeperlaw03_head.f kj3).bind fun t262 => (some t262)) = some r := by rw [if_pos rfl] at H; exact H
        clear H
        have H := H1
        clear H1
        replace H := Option.bind_eq_some_iff.mp H
        obtain ⟨t262, A260, H⟩ := H
        replace H : (some t262) = some r := H
        have A26 := Aside0.mk A260
        clear A260
        obtain rfl := Option.some.inj H
        go_wp2_with (first | ((with_reducible refine gate_callee (f := 8) rfl ?_); refine goesL_ (some 22) rfl rfl Try.func8 (by kernel_rfl) rfl #[] rfl (by (try simp only [List.map_toArray, List.map_cons, List.map_nil]); first | done | rfl | (simp only [List.length_drop, List.length_take]; rfl)) ?_; (with_reducible refine (lockkeeperlaw03_head.calls kj3  t262 _ A26.out).mono ?_); rintro e w27 ⟨rfl, hb⟩; refine ⟨_, rfl, ?_⟩; have n0_ := Aside0.mk (blk_below (g := gb258) (o := .cells #[.string a0_0, .string a0_1, .bool a0_2] 31 (0, 0)) (by (with_reducible repeat (first | refine blk_drewN ?_ _ | refine blk_drew ?_ | refine blk_alloc ?_ _)); exact BK258.out) hb); have n1_ := Aside0.mk (blk_below (g := gb259) (o := .cells #[.string a1_0, .string a1_1, .bool a1_2] 31 (0, 0)) (by (with_reducible repeat (first | refine blk_drewN ?_ _ | refine blk_drew ?_ | refine blk_alloc ?_ _)); exact BK259.out) hb); have n2_ := Aside0.mk (blk_below (g := gb260) (o := .cells #[.string a2_0, .string a2_1, .bool a2_2] 31 (0, 0)) (by (with_reducible repeat (first | refine blk_drewN ?_ _ | refine blk_drew ?_ | refine blk_alloc ?_ _)); exact BK260.out) hb); have n3_ := Aside0.mk (below_step (by repeat (first | (with_reducible first | exact HB.out | apply below_alloc | apply pw_below_drewN | apply below_drew1 | refine below_set ?_ GE258.out | refine below_set ?_ GE259.out | refine below_set ?_ GE260.out) | exact HB.out)) hb); clear BK258; clear BK259; clear BK260; clear HB; have BK258 := n0_; have BK259 := n1_; have BK260 := n2_; have HB := n3_; clear n0_ n1_ n2_ n3_; (try clear hb); (try clear hb2); (try clear hk); (try clear hi)))
        go_ret
        exact ⟨by first | rfl | (simp [errW_none, errW_some] <;> rfl) | (simp [*, errW_none, errW_some] <;> rfl), by repeat (first | (with_reducible first | exact HB.out | apply below_alloc | apply pw_below_drewN | apply below_drew1 | refine below_set ?_ GE258.out | refine below_set ?_ GE259.out | refine below_set ?_ GE260.out) | exact HB.out)⟩
      · replace c25 := Bool.eq_false_iff.mpr c25
        subst c25
        have H1 : ((span_Both.f kj3 a0_0 a0_1 a0_2 a1_0 a1_1 a1_2).bind fun bt263 => ((span_Both.f kj3 a1_0 a1_1 a1_2 a0_0 a0_1 a0_2).bind fun bt268 => (if (!(bt263.1.toList == bt268.1.toList) || (!(bt263.2.1.toList == bt268.2.1.toList) || (!(bt263.2.2.1 == bt268.2.2.1)))) = true then (lockkeeperlaw03_SpanOrder.j1 kj3 bt263.2.2.2 true a0_0 a0_1 a0_2 a1_0 a1_1 a1_2 a2_0 a2_1 a2_2 bt263.1 bt263.2.1 bt263.2.2.1) else (if (bt263.2.2.2 != bt268.2.2.2) = true then (lockkeeperlaw03_SpanOrder.j1 kj3 bt263.2.2.2 true a0_0 a0_1 a0_2 a1_0 a1_1 a1_2 a2_0 a2_1 a2_2 bt263.1 bt263.2.1 bt263.2.2.1) else (if bt263.2.2.2 = true then ((span_Within.f kj3 bt263.1 bt263.2.1 bt263.2.2.1 a0_0 a0_1 a0_2).bind fun t273 => (if t273 = true then ((span_Within.f kj3 bt263.1 bt263.2.1 bt263.2.2.1 a1_0 a1_1 a1_2).bind fun t274 => (if t274 = true then ((span_Right.f kj3 a0_0 a0_1 a0_2).bind fun t275 => (if t275 = true then ((span_Within.f kj3 a0_0 a0_1 a0_2 a0_0 a0_1 a0_2).bind fun t276 => (lockkeeperlaw03_SpanOrder.j1 kj3 bt263.2.2.2 (!t276) a0_0 a0_1 a0_2 a1_0 a1_1 a1_2 a2_0 a2_1 a2_2 bt263.1 bt263.2.1 bt263.2.2.1)) else (lockkeeperlaw03_SpanOrder.j1 kj3 bt263.2.2.2 false a0_0 a0_1 a0_2 a1_0 a1_1 a1_2 a2_0 a2_1 a2_2 bt263.1 bt263.2.1 bt263.2.2.1))) else (lockkeeperlaw03_SpanOrder.j1 kj3 bt263.2.2.2 true a0_0 a0_1 a0_2 a1_0 a1_1 a1_2 a2_0 a2_1 a2_2 bt263.1 bt263.2.1 bt263.2.2.1))) else (lockkeeperlaw03_SpanOrder.j1 kj3 bt263.2.2.2 true a0_0 a0_1 a0_2 a1_0 a1_1 a1_2 a2_0 a2_1 a2_2 bt263.1 bt263.2.1 bt263.2.2.1))) else ((span_Right.f kj3 a0_0 a0_1 a0_2).bind fun t277 => (if t277 = true then ((span_Within.f kj3 a0_0 a0_1 a0_2 a0_0 a0_1 a0_2).bind fun t278 => (lockkeeperlaw03_SpanOrder.j1 kj3 bt263.2.2.2 (!t278) a0_0 a0_1 a0_2 a1_0 a1_1 a1_2 a2_0 a2_1 a2_2 bt263.1 bt263.2.1 bt263.2.2.1)) else (lockkeeperlaw03_SpanOrder.j1 kj3 bt263.2.2.2 false a0_0 a0_1 a0_2 a1_0 a1_1 a1_2 a2_0 a2_1 a2_2 bt263.1 bt263.2.1 bt263.2.2.1)))))))) = some r := by rw [if_neg (show ¬ (false = true) by decide)] at H; exact H
        clear H
        have H := H1
        clear H1
        replace H := Option.bind_eq_some_iff.mp H
        obtain ⟨⟨t263, t264, t265, t266⟩, A280, H⟩ := H
        replace H : ((span_Both.f kj3 a1_0 a1_1 a1_2 a0_0 a0_1 a0_2).bind fun bt268 => (if (!(t263.toList == bt268.1.toList) || (!(t264.toList == bt268.2.1.toList) || (!(t265 == bt268.2.2.1)))) = true then (lockkeeperlaw03_SpanOrder.j1 kj3 t266 true a0_0 a0_1 a0_2 a1_0 a1_1 a1_2 a2_0 a2_1 a2_2 t263 t264 t265) else (if (t266 != bt268.2.2.2) = true then (lockkeeperlaw03_SpanOrder.j1 kj3 t266 true a0_0 a0_1 a0_2 a1_0 a1_1 a1_2 a2_0 a2_1 a2_2 t263 t264 t265) else (if t266 = true then ((span_Within.f kj3 t263 t264 t265 a0_0 a0_1 a0_2).bind fun t273 => (if t273 = true then ((span_Within.f kj3 t263 t264 t265 a1_0 a1_1 a1_2).bind fun t274 => (if t274 = true then ((span_Right.f kj3 a0_0 a0_1 a0_2).bind fun t275 => (if t275 = true then ((span_Within.f kj3 a0_0 a0_1 a0_2 a0_0 a0_1 a0_2).bind fun t276 => (lockkeeperlaw03_SpanOrder.j1 kj3 t266 (!t276) a0_0 a0_1 a0_2 a1_0 a1_1 a1_2 a2_0 a2_1 a2_2 t263 t264 t265)) else (lockkeeperlaw03_SpanOrder.j1 kj3 t266 false a0_0 a0_1 a0_2 a1_0 a1_1 a1_2 a2_0 a2_1 a2_2 t263 t264 t265))) else (lockkeeperlaw03_SpanOrder.j1 kj3 t266 true a0_0 a0_1 a0_2 a1_0 a1_1 a1_2 a2_0 a2_1 a2_2 t263 t264 t265))) else (lockkeeperlaw03_SpanOrder.j1 kj3 t266 true a0_0 a0_1 a0_2 a1_0 a1_1 a1_2 a2_0 a2_1 a2_2 t263 t264 t265))) else ((span_Right.f kj3 a0_0 a0_1 a0_2).bind fun t277 => (if t277 = true then ((span_Within.f kj3 a0_0 a0_1 a0_2 a0_0 a0_1 a0_2).bind fun t278 => (lockkeeperlaw03_SpanOrder.j1 kj3 t266 (!t278) a0_0 a0_1 a0_2 a1_0 a1_1 a1_2 a2_0 a2_1 a2_2 t263 t264 t265)) else (lockkeeperlaw03_SpanOrder.j1 kj3 t266 false a0_0 a0_1 a0_2 a1_0 a1_1 a1_2 a2_0 a2_1 a2_2 t263 t264 t265))))))) = some r := H
        have A28 := Aside0.mk A280
        clear A280
        replace H := Option.bind_eq_some_iff.mp H
        obtain ⟨⟨t268, t269, t270, t271⟩, A290, H⟩ := H
        replace H : (if (!(t263.toList == t268.toList) || (!(t264.toList == t269.toList) || (!(t265 == t270)))) = true then (lockkeeperlaw03_SpanOrder.j1 kj3 t266 true a0_0 a0_1 a0_2 a1_0 a1_1 a1_2 a2_0 a2_1 a2_2 t263 t264 t265) else (if (t266 != t271) = true then (lockkeeperlaw03_SpanOrder.j1 kj3 t266 true a0_0 a0_1 a0_2 a1_0 a1_1 a1_2 a2_0 a2_1 a2_2 t263 t264 t265) else (if t266 = true then ((span_Within.f kj3 t263 t264 t265 a0_0 a0_1 a0_2).bind fun t273 => (if t273 = true then ((span_Within.f kj3 t263 t264 t265 a1_0 a1_1 a1_2).bind fun t274 => (if t274 = true then ((span_Right.f kj3 a0_0 a0_1 a0_2).bind fun t275 => (if t275 = true then ((span_Within.f kj3 a0_0 a0_1 a0_2 a0_0 a0_1 a0_2).bind fun t276 => (lockkeeperlaw03_SpanOrder.j1 kj3 t266 (!t276) a0_0 a0_1 a0_2 a1_0 a1_1 a1_2 a2_0 a2_1 a2_2 t263 t264 t265)) else (lockkeeperlaw03_SpanOrder.j1 kj3 t266 false a0_0 a0_1 a0_2 a1_0 a1_1 a1_2 a2_0 a2_1 a2_2 t263 t264 t265))) else (lockkeeperlaw03_SpanOrder.j1 kj3 t266 true a0_0 a0_1 a0_2 a1_0 a1_1 a1_2 a2_0 a2_1 a2_2 t263 t264 t265))) else (lockkeeperlaw03_SpanOrder.j1 kj3 t266 true a0_0 a0_1 a0_2 a1_0 a1_1 a1_2 a2_0 a2_1 a2_2 t263 t264 t265))) else ((span_Right.f kj3 a0_0 a0_1 a0_2).bind fun t277 => (if t277 = true then ((span_Within.f kj3 a0_0 a0_1 a0_2 a0_0 a0_1 a0_2).bind fun t278 => (lockkeeperlaw03_SpanOrder.j1 kj3 t266 (!t278) a0_0 a0_1 a0_2 a1_0 a1_1 a1_2 a2_0 a2_1 a2_2 t263 t264 t265)) else (lockkeeperlaw03_SpanOrder.j1 kj3 t266 false a0_0 a0_1 a0_2 a1_0 a1_1 a1_2 a2_0 a2_1 a2_2 t263 t264 t265)))))) = some r := H
        have A29 := Aside0.mk A290
        clear A290
        have HC30 := Aside0.mk H
        clear H
        have hnb31 := NB258_259.out
        have hnc31 := NB259_258.out
        have hnb32 := NB258_260.out
        have hnc32 := NB260_258.out
        have hcz33_0 : wc.cell? ⟨gb258, 0, none⟩ = some (.string a0_0) := (blk_cell BK258.out 0).trans rfl
        have hcz33_1 : wc.cell? ⟨gb258, 1, none⟩ = some (.string a0_1) := (blk_cell BK258.out 1).trans rfl
        have hcz33_2 : wc.cell? ⟨gb258, 2, none⟩ = some (.bool a0_2) := (blk_cell BK258.out 2).trans rfl
        have hfz33_0 := blk_frozen BK258.out 0
        have hfz33_1 := blk_frozen BK258.out 1
        have hfz33_2 := blk_frozen BK258.out 2
        have hnb34 := NB259_260.out
        have hnc34 := NB260_259.out
        have hcz35_0 : wc.cell? ⟨gb259, 0, none⟩ = some (.string a1_0) := (blk_cell BK259.out 0).trans rfl
        have hcz35_1 : wc.cell? ⟨gb259, 1, none⟩ = some (.string a1_1) := (blk_cell BK259.out 1).trans rfl
        have hcz35_2 : wc.cell? ⟨gb259, 2, none⟩ = some (.bool a1_2) := (blk_cell BK259.out 2).trans rfl
        have hfz35_0 := blk_frozen BK259.out 0
        have hfz35_1 := blk_frozen BK259.out 1
        have hfz35_2 := blk_frozen BK259.out 2
        go_upto_region 5 with (first | ((with_reducible refine gate_callee (f := 15) rfl ?_); refine goesL_ (some 26) rfl rfl Try.func15 (by kernel_rfl) rfl #[.agg #[.string a0_0, .string a0_1, .bool a0_2], .agg #[.string a1_0, .string a1_1, .bool a1_2]] rfl (by (try simp only [List.map_toArray, List.map_cons, List.map_nil]); first | done | rfl | (simp only [List.length_drop, List.length_take]; rfl)) ?_; (with_reducible refine (span_Both.calls kj3 a0_0 a0_1 a0_2 a1_0 a1_1 a1_2 t263 t264 t265 t266 _ A28.out).mono ?_); rintro e w36 ⟨rfl, hb⟩; refine ⟨_, rfl, ?_⟩; have n0_ := Aside0.mk (blk_below (g := gb258) (o := .cells #[.string a0_0, .string a0_1, .bool a0_2] 31 (0, 0)) (by (with_reducible repeat (first | refine blk_drewN ?_ _ | refine blk_drew ?_ | refine blk_alloc ?_ _)); exact BK258.out) hb); have n1_ := Aside0.mk (blk_below (g := gb259) (o := .cells #[.string a1_0, .string a1_1, .bool a1_2] 31 (0, 0)) (by (with_reducible repeat (first | refine blk_drewN ?_ _ | refine blk_drew ?_ | refine blk_alloc ?_ _)); exact BK259.out) hb); have n2_ := Aside0.mk (blk_below (g := gb260) (o := .cells #[.string a2_0, .string a2_1, .bool a2_2] 31 (0, 0)) (by (with_reducible repeat (first | refine blk_drewN ?_ _ | refine blk_drew ?_ | refine blk_alloc ?_ _)); exact BK260.out) hb); have n3_ := Aside0.mk (below_step (by repeat (first | (with_reducible first | exact HB.out | apply below_alloc | apply pw_below_drewN | apply below_drew1 | refine below_set ?_ GE258.out | refine below_set ?_ GE259.out | refine below_set ?_ GE260.out) | exact HB.out)) hb); clear BK258; clear BK259; clear BK260; clear HB; have BK258 := n0_; have BK259 := n1_; have BK260 := n2_; have HB := n3_; clear n0_ n1_ n2_ n3_; (try clear hb); (try clear hb2); (try clear hk); (try clear hi)) | ((with_reducible refine gate_dst (N := 7) rfl ?_); (try (refine gate_guard (by rfl) ?_; dsimp only)); refine box_event ?hg (N := 7) ?hd (cs := #[.string (⟨#[]⟩ : ByteArray), .string (⟨#[]⟩ : ByteArray), .bool false]) (t := 31) ?hr ?_; (case hd => rfl); (case hg => rfl); (case hr => first | (go_simp; done) | (go_simp; rfl)); intro gb267 hg w37 hbox hb; have n0_ := Aside0.mk (blk_below (g := gb258) (o := .cells #[.string a0_0, .string a0_1, .bool a0_2] 31 (0, 0)) (by (with_reducible repeat (first | refine blk_drewN ?_ _ | refine blk_drew ?_ | refine blk_alloc ?_ _)); exact BK258.out) hb); have n1_ := Aside0.mk (blk_below (g := gb259) (o := .cells #[.string a1_0, .string a1_1, .bool a1_2] 31 (0, 0)) (by (with_reducible repeat (first | refine blk_drewN ?_ _ | refine blk_drew ?_ | refine blk_alloc ?_ _)); exact BK259.out) hb); have n2_ := Aside0.mk (blk_below (g := gb260) (o := .cells #[.string a2_0, .string a2_1, .bool a2_2] 31 (0, 0)) (by (with_reducible repeat (first | refine blk_drewN ?_ _ | refine blk_drew ?_ | refine blk_alloc ?_ _)); exact BK260.out) hb); have n3_ := Aside0.mk (below_step (by repeat (first | (with_reducible first | exact HB.out | apply below_alloc | apply pw_below_drewN | apply below_drew1 | refine below_set ?_ GE258.out | refine below_set ?_ GE259.out | refine below_set ?_ GE260.out) | exact HB.out)) hb); have n4_ := Aside0.mk (hbox); have n5_ := Aside0.mk ((by rw [hg]; exact (below_size (by repeat (first | (with_reducible first | exact HB.out | apply below_alloc | apply pw_below_drewN | apply below_drew1 | refine below_set ?_ GE258.out | refine below_set ?_ GE259.out | refine below_set ?_ GE260.out) | exact HB.out))) : w.heap.size ≤ gb267)); have n6_ := Aside0.mk ((by rw [hg]; exact (below_size (by repeat (first | (with_reducible first | exact HB.out | apply below_alloc | apply pw_below_drewN | apply below_drew1 | refine below_set ?_ GE258.out | refine below_set ?_ GE259.out | refine below_set ?_ GE260.out) | exact HB.out))) : w.heap.size ≤ gb267)); have n7_ := Aside0.mk ((by rw [hg]; exact Nat.ne_of_lt (blk_lt (g := gb258) (o := .cells #[.string a0_0, .string a0_1, .bool a0_2] 31 (0, 0)) (by (with_reducible repeat (first | refine blk_drewN ?_ _ | refine blk_drew ?_ | refine blk_alloc ?_ _)); exact BK258.out)) : gb258 ≠ gb267)); have n8_ := Aside0.mk ((by rw [hg]; exact Nat.ne_of_gt (blk_lt (g := gb258) (o := .cells #[.string a0_0, .string a0_1, .bool a0_2] 31 (0, 0)) (by (with_reducible repeat (first | refine blk_drewN ?_ _ | refine blk_drew ?_ | refine blk_alloc ?_ _)); exact BK258.out)) : gb267 ≠ gb258)); have n9_ := Aside0.mk ((by rw [hg]; exact Nat.ne_of_lt (blk_lt (g := gb259) (o := .cells #[.string a1_0, .string a1_1, .bool a1_2] 31 (0, 0)) (by (with_reducible repeat (first | refine blk_drewN ?_ _ | refine blk_drew ?_ | refine blk_alloc ?_ _)); exact BK259.out)) : gb259 ≠ gb267)); have n10_ := Aside0.mk ((by rw [hg]; exact Nat.ne_of_gt (blk_lt (g := gb259) (o := .cells #[.string a1_0, .string a1_1, .bool a1_2] 31 (0, 0)) (by (with_reducible repeat (first | refine blk_drewN ?_ _ | refine blk_drew ?_ | refine blk_alloc ?_ _)); exact BK259.out)) : gb267 ≠ gb259)); have n11_ := Aside0.mk ((by rw [hg]; exact Nat.ne_of_lt (blk_lt (g := gb260) (o := .cells #[.string a2_0, .string a2_1, .bool a2_2] 31 (0, 0)) (by (with_reducible repeat (first | refine blk_drewN ?_ _ | refine blk_drew ?_ | refine blk_alloc ?_ _)); exact BK260.out)) : gb260 ≠ gb267)); have n12_ := Aside0.mk ((by rw [hg]; exact Nat.ne_of_gt (blk_lt (g := gb260) (o := .cells #[.string a2_0, .string a2_1, .bool a2_2] 31 (0, 0)) (by (with_reducible repeat (first | refine blk_drewN ?_ _ | refine blk_drew ?_ | refine blk_alloc ?_ _)); exact BK260.out)) : gb267 ≠ gb260)); clear BK258; clear BK259; clear BK260; clear HB; have BK258 := n0_; have BK259 := n1_; have BK260 := n2_; have HB := n3_; have BK267 := n4_; have GW267 := n5_; have GE267 := n6_; have NB258_267 := n7_; have NB267_258 := n8_; have NB259_267 := n9_; have NB267_259 := n10_; have NB260_267 := n11_; have NB267_260 := n12_; clear n0_ n1_ n2_ n3_ n4_ n5_ n6_ n7_ n8_ n9_ n10_ n11_ n12_; clear hb hbox hg; have hnb38 := NB267_258.out; have hnc38 := NB258_267.out; have hnb39 := NB267_259.out; have hnc39 := NB259_267.out; have hnb40 := NB267_260.out; have hnc40 := NB260_267.out; have hcz41_0 : w37.cell? ⟨gb267, 0, none⟩ = some (.string (⟨#[]⟩ : ByteArray)) := (blk_cell BK267.out 0).trans rfl; have hcz41_1 : w37.cell? ⟨gb267, 1, none⟩ = some (.string (⟨#[]⟩ : ByteArray)) := (blk_cell BK267.out 1).trans rfl; have hcz41_2 : w37.cell? ⟨gb267, 2, none⟩ = some (.bool false) := (blk_cell BK267.out 2).trans rfl; have hfz41_0 := blk_frozen BK267.out 0; have hfz41_1 := blk_frozen BK267.out 1; have hfz41_2 := blk_frozen BK267.out 2; have hcz42_0 : w37.cell? ⟨gb259, 0, none⟩ = some (.string a1_0) := (blk_cell BK259.out 0).trans rfl; have hcz42_1 : w37.cell? ⟨gb259, 1, none⟩ = some (.string a1_1) := (blk_cell BK259.out 1).trans rfl; have hcz42_2 : w37.cell? ⟨gb259, 2, none⟩ = some (.bool a1_2) := (blk_cell BK259.out 2).trans rfl; have hfz42_0 := blk_frozen BK259.out 0; have hfz42_1 := blk_frozen BK259.out 1; have hfz42_2 := blk_frozen BK259.out 2; have hcz43_0 : w37.cell? ⟨gb258, 0, none⟩ = some (.string a0_0) := (blk_cell BK258.out 0).trans rfl; have hcz43_1 : w37.cell? ⟨gb258, 1, none⟩ = some (.string a0_1) := (blk_cell BK258.out 1).trans rfl; have hcz43_2 : w37.cell? ⟨gb258, 2, none⟩ = some (.bool a0_2) := (blk_cell BK258.out 2).trans rfl; have hfz43_0 := blk_frozen BK258.out 0; have hfz43_1 := blk_frozen BK258.out 1; have hfz43_2 := blk_frozen BK258.out 2) | ((with_reducible refine gate_callee (f := 15) rfl ?_); refine goesL_ (some 32) rfl rfl Try.func15 (by kernel_rfl) rfl #[.agg #[.string a1_0, .string a1_1, .bool a1_2], .agg #[.string a0_0, .string a0_1, .bool a0_2]] rfl (by (try simp only [List.map_toArray, List.map_cons, List.map_nil]); first | done | rfl | (simp only [List.length_drop, List.length_take]; rfl)) ?_; (with_reducible refine (span_Both.calls kj3 a1_0 a1_1 a1_2 a0_0 a0_1 a0_2 t268 t269 t270 t271 _ A29.out).mono ?_); rintro e w44 ⟨rfl, hb⟩; refine ⟨_, rfl, ?_⟩; have n0_ := Aside0.mk (blk_below (g := gb258) (o := .cells #[.string a0_0, .string a0_1, .bool a0_2] 31 (0, 0)) (by (with_reducible repeat (first | refine blk_drewN ?_ _ | refine blk_drew ?_ | refine blk_alloc ?_ _)); refine blk_far ?_ NB258_267.out _; (with_reducible repeat (first | refine blk_drewN ?_ _ | refine blk_drew ?_ | refine blk_alloc ?_ _)); refine blk_far ?_ NB258_267.out _; (with_reducible repeat (first | refine blk_drewN ?_ _ | refine blk_drew ?_ | refine blk_alloc ?_ _)); refine blk_far ?_ NB258_267.out _; (with_reducible repeat (first | refine blk_drewN ?_ _ | refine blk_drew ?_ | refine blk_alloc ?_ _)); exact BK258.out) hb); have n1_ := Aside0.mk (blk_below (g := gb259) (o := .cells #[.string a1_0, .string a1_1, .bool a1_2] 31 (0, 0)) (by (with_reducible repeat (first | refine blk_drewN ?_ _ | refine blk_drew ?_ | refine blk_alloc ?_ _)); refine blk_far ?_ NB259_267.out _; (with_reducible repeat (first | refine blk_drewN ?_ _ | refine blk_drew ?_ | refine blk_alloc ?_ _)); refine blk_far ?_ NB259_267.out _; (with_reducible repeat (first | refine blk_drewN ?_ _ | refine blk_drew ?_ | refine blk_alloc ?_ _)); refine blk_far ?_ NB259_267.out _; (with_reducible repeat (first | refine blk_drewN ?_ _ | refine blk_drew ?_ | refine blk_alloc ?_ _)); exact BK259.out) hb); have n2_ := Aside0.mk (blk_below (g := gb260) (o := .cells #[.string a2_0, .string a2_1, .bool a2_2] 31 (0, 0)) (by (with_reducible repeat (first | refine blk_drewN ?_ _ | refine blk_drew ?_ | refine blk_alloc ?_ _)); refine blk_far ?_ NB260_267.out _; (with_reducible repeat (first | refine blk_drewN ?_ _ | refine blk_drew ?_ | refine blk_alloc ?_ _)); refine blk_far ?_ NB260_267.out _; (with_reducible repeat (first | refine blk_drewN ?_ _ | refine blk_drew ?_ | refine blk_alloc ?_ _)); refine blk_far ?_ NB260_267.out _; (with_reducible repeat (first | refine blk_drewN ?_ _ | refine blk_drew ?_ | refine blk_alloc ?_ _)); exact BK260.out) hb); have n3_ := Aside0.mk (blk_below (g := gb267) (o := .cells #[.string t263, .string t264, .bool t265] 31 (0, 0)) (by (with_reducible repeat (first | refine blk_drewN ?_ _ | refine blk_drew ?_ | refine blk_alloc ?_ _)); refine blk_put (cs := #[.string t263, .string t264, .bool false]) ?_ 2 _ rfl; (with_reducible repeat (first | refine blk_drewN ?_ _ | refine blk_drew ?_ | refine blk_alloc ?_ _)); refine blk_put (cs := #[.string t263, .string (⟨#[]⟩ : ByteArray), .bool false]) ?_ 1 _ rfl; (with_reducible repeat (first | refine blk_drewN ?_ _ | refine blk_drew ?_ | refine blk_alloc ?_ _)); refine blk_put (cs := #[.string (⟨#[]⟩ : ByteArray), .string (⟨#[]⟩ : ByteArray), .bool false]) ?_ 0 _ rfl; (with_reducible repeat (first | refine blk_drewN ?_ _ | refine blk_drew ?_ | refine blk_alloc ?_ _)); exact BK267.out) hb); have n4_ := Aside0.mk (below_step (by repeat (first | (with_reducible first | exact HB.out | apply below_alloc | apply pw_below_drewN | apply below_drew1 | refine below_set ?_ GE258.out | refine below_set ?_ GE259.out | refine below_set ?_ GE260.out | refine below_set ?_ GE267.out) | exact HB.out)) hb); clear BK258; clear BK259; clear BK260; clear BK267; clear HB; have BK258 := n0_; have BK259 := n1_; have BK260 := n2_; have BK267 := n3_; have HB := n4_; clear n0_ n1_ n2_ n3_ n4_; (try clear hb); (try clear hb2); (try clear hk); (try clear hi)) | ((with_reducible refine gate_dst (N := 9) rfl ?_); (try (refine gate_guard (by rfl) ?_; dsimp only)); refine box_event ?hg (N := 9) ?hd (cs := #[.string (⟨#[]⟩ : ByteArray), .string (⟨#[]⟩ : ByteArray), .bool false]) (t := 31) ?hr ?_; (case hd => rfl); (case hg => rfl); (case hr => first | (go_simp; done) | (go_simp; rfl)); intro gb272 hg w45 hbox hb; have n0_ := Aside0.mk (blk_below (g := gb258) (o := .cells #[.string a0_0, .string a0_1, .bool a0_2] 31 (0, 0)) (by (with_reducible repeat (first | refine blk_drewN ?_ _ | refine blk_drew ?_ | refine blk_alloc ?_ _)); exact BK258.out) hb); have n1_ := Aside0.mk (blk_below (g := gb259) (o := .cells #[.string a1_0, .string a1_1, .bool a1_2] 31 (0, 0)) (by (with_reducible repeat (first | refine blk_drewN ?_ _ | refine blk_drew ?_ | refine blk_alloc ?_ _)); exact BK259.out) hb); have n2_ := Aside0.mk (blk_below (g := gb260) (o := .cells #[.string a2_0, .string a2_1, .bool a2_2] 31 (0, 0)) (by (with_reducible repeat (first | refine blk_drewN ?_ _ | refine blk_drew ?_ | refine blk_alloc ?_ _)); exact BK260.out) hb); have n3_ := Aside0.mk (blk_below (g := gb267) (o := .cells #[.string t263, .string t264, .bool t265] 31 (0, 0)) (by (with_reducible repeat (first | refine blk_drewN ?_ _ | refine blk_drew ?_ | refine blk_alloc ?_ _)); exact BK267.out) hb); have n4_ := Aside0.mk (below_step (by repeat (first | (with_reducible first | exact HB.out | apply below_alloc | apply pw_below_drewN | apply below_drew1 | refine below_set ?_ GE258.out | refine below_set ?_ GE259.out | refine below_set ?_ GE260.out | refine below_set ?_ GE267.out) | exact HB.out)) hb); have n5_ := Aside0.mk (hbox); have n6_ := Aside0.mk ((by rw [hg]; exact (below_size (by repeat (first | (with_reducible first | exact HB.out | apply below_alloc | apply pw_below_drewN | apply below_drew1 | refine below_set ?_ GE258.out | refine below_set ?_ GE259.out | refine below_set ?_ GE260.out | refine below_set ?_ GE267.out) | exact HB.out))) : w.heap.size ≤ gb272)); have n7_ := Aside0.mk ((by rw [hg]; exact (below_size (by repeat (first | (with_reducible first | exact HB.out | apply below_alloc | apply pw_below_drewN | apply below_drew1 | refine below_set ?_ GE258.out | refine below_set ?_ GE259.out | refine below_set ?_ GE260.out | refine below_set ?_ GE267.out) | exact HB.out))) : w.heap.size ≤ gb272)); have n8_ := Aside0.mk ((by rw [hg]; exact Nat.ne_of_lt (blk_lt (g := gb258) (o := .cells #[.string a0_0, .string a0_1, .bool a0_2] 31 (0, 0)) (by (with_reducible repeat (first | refine blk_drewN ?_ _ | refine blk_drew ?_ | refine blk_alloc ?_ _)); exact BK258.out)) : gb258 ≠ gb272)); have n9_ := Aside0.mk ((by rw [hg]; exact Nat.ne_of_gt (blk_lt (g := gb258) (o := .cells #[.string a0_0, .string a0_1, .bool a0_2] 31 (0, 0)) (by (with_reducible repeat (first | refine blk_drewN ?_ _ | refine blk_drew ?_ | refine blk_alloc ?_ _)); exact BK258.out)) : gb272 ≠ gb258)); have n10_ := Aside0.mk ((by rw [hg]; exact Nat.ne_of_lt (blk_lt (g := gb259) (o := .cells #[.string a1_0, .string a1_1, .bool a1_2] 31 (0, 0)) (by (with_reducible repeat (first | refine blk_drewN ?_ _ | refine blk_drew ?_ | refine blk_alloc ?_ _)); exact BK259.out)) : gb259 ≠ gb272)); have n11_ := Aside0.mk ((by rw [hg]; exact Nat.ne_of_gt (blk_lt (g := gb259) (o := .cells #[.string a1_0, .string a1_1, .bool a1_2] 31 (0, 0)) (by (with_reducible repeat (first | refine blk_drewN ?_ _ | refine blk_drew ?_ | refine blk_alloc ?_ _)); exact BK259.out)) : gb272 ≠ gb259)); have n12_ := Aside0.mk ((by rw [hg]; exact Nat.ne_of_lt (blk_lt (g := gb260) (o := .cells #[.string a2_0, .string a2_1, .bool a2_2] 31 (0, 0)) (by (with_reducible repeat (first | refine blk_drewN ?_ _ | refine blk_drew ?_ | refine blk_alloc ?_ _)); exact BK260.out)) : gb260 ≠ gb272)); have n13_ := Aside0.mk ((by rw [hg]; exact Nat.ne_of_gt (blk_lt (g := gb260) (o := .cells #[.string a2_0, .string a2_1, .bool a2_2] 31 (0, 0)) (by (with_reducible repeat (first | refine blk_drewN ?_ _ | refine blk_drew ?_ | refine blk_alloc ?_ _)); exact BK260.out)) : gb272 ≠ gb260)); have n14_ := Aside0.mk ((by rw [hg]; exact Nat.ne_of_lt (blk_lt (g := gb267) (o := .cells #[.string t263, .string t264, .bool t265] 31 (0, 0)) (by (with_reducible repeat (first | refine blk_drewN ?_ _ | refine blk_drew ?_ | refine blk_alloc ?_ _)); exact BK267.out)) : gb267 ≠ gb272)); have n15_ := Aside0.mk ((by rw [hg]; exact Nat.ne_of_gt (blk_lt (g := gb267) (o := .cells #[.string t263, .string t264, .bool t265] 31 (0, 0)) (by (with_reducible repeat (first | refine blk_drewN ?_ _ | refine blk_drew ?_ | refine blk_alloc ?_ _)); exact BK267.out)) : gb272 ≠ gb267)); clear BK258; clear BK259; clear BK260; clear BK267; clear HB; have BK258 := n0_; have BK259 := n1_; have BK260 := n2_; have BK267 := n3_; have HB := n4_; have BK272 := n5_; have GW272 := n6_; have GE272 := n7_; have NB258_272 := n8_; have NB272_258 := n9_; have NB259_272 := n10_; have NB272_259 := n11_; have NB260_272 := n12_; have NB272_260 := n13_; have NB267_272 := n14_; have NB272_267 := n15_; clear n0_ n1_ n2_ n3_ n4_ n5_ n6_ n7_ n8_ n9_ n10_ n11_ n12_ n13_ n14_ n15_; clear hb hbox hg; have hnb46 := NB272_258.out; have hnc46 := NB258_272.out; have hnb47 := NB272_259.out; have hnc47 := NB259_272.out; have hnb48 := NB272_260.out; have hnc48 := NB260_272.out; have hnb49 := NB272_267.out; have hnc49 := NB267_272.out; have hcz50_0 : w45.cell? ⟨gb272, 0, none⟩ = some (.string (⟨#[]⟩ : ByteArray)) := (blk_cell BK272.out 0).trans rfl; have hcz50_1 : w45.cell? ⟨gb272, 1, none⟩ = some (.string (⟨#[]⟩ : ByteArray)) := (blk_cell BK272.out 1).trans rfl; have hcz50_2 : w45.cell? ⟨gb272, 2, none⟩ = some (.bool false) := (blk_cell BK272.out 2).trans rfl; have hfz50_0 := blk_frozen BK272.out 0; have hfz50_1 := blk_frozen BK272.out 1; have hfz50_2 := blk_frozen BK272.out 2))
        (try simp only [Act.put, List.setIfInBounds_toArray, List.set_cons_zero, List.set_cons_succ])
        go_cut [67] (fun v67 wc => ∃ (kq : Nat) (x67_29 : Bool), v67 = .bool x67_29 ∧ Aside0 (lockkeeperlaw03_SpanOrder.j1 kq t266 x67_29 a0_0 a0_1 a0_2 a1_0 a1_1 a1_2 a2_0 a2_1 a2_2 t263 t264 t265 = some r) ∧ Aside0 (kq ≤ kj3) ∧ Aside0 (wc.heap[gb258]? = some (.cells #[.string a0_0, .string a0_1, .bool a0_2] 31 (0, 0))) ∧ Aside0 (wc.heap[gb259]? = some (.cells #[.string a1_0, .string a1_1, .bool a1_2] 31 (0, 0))) ∧ Aside0 (wc.heap[gb260]? = some (.cells #[.string a2_0, .string a2_1, .bool a2_2] 31 (0, 0))) ∧ Aside0 (wc.heap[gb267]? = some (.cells #[.string t263, .string t264, .bool t265] 31 (0, 0))) ∧ Aside0 (wc.heap[gb272]? = some (.cells #[.string t268, .string t269, .bool t270] 31 (0, 0))) ∧ Aside0 (Below w.heap.size w wc))
        case first =>
          have H := HC30.out
          clear HC30
          by_cases c51 : (!(t263.toList == t268.toList) || (!(t264.toList == t269.toList) || (!(t265 == t270)))) = true
          · rw [if_pos c51] at H
            have c51b0 : (!(t263.toList == t268.toList) || (!(t264.toList == t269.toList) || (!(t265 == t270)))) = true := c51
            clear c51
            (first | rw [c51b0] | (simp only [i64_w, i32_w]; rw [c51b0]) | skip)
            have H' := Aside0.mk H
            clear H
            have hnb52 := NB267_258.out
            have hnc52 := NB258_267.out
            have hnb53 := NB267_259.out
            have hnc53 := NB259_267.out
            have hnb54 := NB267_260.out
            have hnc54 := NB260_267.out
            have hnb55 := NB267_272.out
            have hnc55 := NB272_267.out
            have hcz56_0 : w45.cell? ⟨gb267, 0, none⟩ = some (.string t263) := (blk_cell BK267.out 0).trans rfl
            have hcz56_1 : w45.cell? ⟨gb267, 1, none⟩ = some (.string t264) := (blk_cell BK267.out 1).trans rfl
            have hcz56_2 : w45.cell? ⟨gb267, 2, none⟩ = some (.bool t265) := (blk_cell BK267.out 2).trans rfl
            have hfz56_0 := blk_frozen BK267.out 0
            have hfz56_1 := blk_frozen BK267.out 1
            have hfz56_2 := blk_frozen BK267.out 2
            have hnb57 := NB272_258.out
            have hnc57 := NB258_272.out
            have hnb58 := NB272_259.out
            have hnc58 := NB259_272.out
            have hnb59 := NB272_260.out
            have hnc59 := NB260_272.out
            have hcz60_0 : w45.cell? ⟨gb272, 0, none⟩ = some (.string (⟨#[]⟩ : ByteArray)) := (blk_cell BK272.out 0).trans rfl
            have hcz60_1 : w45.cell? ⟨gb272, 1, none⟩ = some (.string (⟨#[]⟩ : ByteArray)) := (blk_cell BK272.out 1).trans rfl
            have hcz60_2 : w45.cell? ⟨gb272, 2, none⟩ = some (.bool false) := (blk_cell BK272.out 2).trans rfl
            have hfz60_0 := blk_frozen BK272.out 0
            have hfz60_1 := blk_frozen BK272.out 1
            have hfz60_2 := blk_frozen BK272.out 2
            go_wp2
            go_meet
            case rel => exact ⟨_, (true), (by first | rfl | (simp; done) | (simp [*]; done)), H', ⟨by have := HJ3.out; first | omega | exact Nat.le_refl _⟩, ⟨by (with_reducible repeat (first | refine blk_drewN ?_ _ | refine blk_drew ?_ | refine blk_alloc ?_ _)); refine blk_far ?_ NB258_272.out _; (with_reducible repeat (first | refine blk_drewN ?_ _ | refine blk_drew ?_ | refine blk_alloc ?_ _)); refine blk_far ?_ NB258_272.out _; (with_reducible repeat (first | refine blk_drewN ?_ _ | refine blk_drew ?_ | refine blk_alloc ?_ _)); refine blk_far ?_ NB258_272.out _; (with_reducible repeat (first | refine blk_drewN ?_ _ | refine blk_drew ?_ | refine blk_alloc ?_ _)); exact BK258.out⟩, ⟨by (with_reducible repeat (first | refine blk_drewN ?_ _ | refine blk_drew ?_ | refine blk_alloc ?_ _)); refine blk_far ?_ NB259_272.out _; (with_reducible repeat (first | refine blk_drewN ?_ _ | refine blk_drew ?_ | refine blk_alloc ?_ _)); refine blk_far ?_ NB259_272.out _; (with_reducible repeat (first | refine blk_drewN ?_ _ | refine blk_drew ?_ | refine blk_alloc ?_ _)); refine blk_far ?_ NB259_272.out _; (with_reducible repeat (first | refine blk_drewN ?_ _ | refine blk_drew ?_ | refine blk_alloc ?_ _)); exact BK259.out⟩, ⟨by (with_reducible repeat (first | refine blk_drewN ?_ _ | refine blk_drew ?_ | refine blk_alloc ?_ _)); refine blk_far ?_ NB260_272.out _; (with_reducible repeat (first | refine blk_drewN ?_ _ | refine blk_drew ?_ | refine blk_alloc ?_ _)); refine blk_far ?_ NB260_272.out _; (with_reducible repeat (first | refine blk_drewN ?_ _ | refine blk_drew ?_ | refine blk_alloc ?_ _)); refine blk_far ?_ NB260_272.out _; (with_reducible repeat (first | refine blk_drewN ?_ _ | refine blk_drew ?_ | refine blk_alloc ?_ _)); exact BK260.out⟩, ⟨by (with_reducible repeat (first | refine blk_drewN ?_ _ | refine blk_drew ?_ | refine blk_alloc ?_ _)); refine blk_far ?_ NB267_272.out _; (with_reducible repeat (first | refine blk_drewN ?_ _ | refine blk_drew ?_ | refine blk_alloc ?_ _)); refine blk_far ?_ NB267_272.out _; (with_reducible repeat (first | refine blk_drewN ?_ _ | refine blk_drew ?_ | refine blk_alloc ?_ _)); refine blk_far ?_ NB267_272.out _; (with_reducible repeat (first | refine blk_drewN ?_ _ | refine blk_drew ?_ | refine blk_alloc ?_ _)); exact BK267.out⟩, ⟨by (with_reducible repeat (first | refine blk_drewN ?_ _ | refine blk_drew ?_ | refine blk_alloc ?_ _)); refine blk_put (cs := #[.string t268, .string t269, .bool false]) ?_ 2 _ rfl; (with_reducible repeat (first | refine blk_drewN ?_ _ | refine blk_drew ?_ | refine blk_alloc ?_ _)); refine blk_put (cs := #[.string t268, .string (⟨#[]⟩ : ByteArray), .bool false]) ?_ 1 _ rfl; (with_reducible repeat (first | refine blk_drewN ?_ _ | refine blk_drew ?_ | refine blk_alloc ?_ _)); refine blk_put (cs := #[.string (⟨#[]⟩ : ByteArray), .string (⟨#[]⟩ : ByteArray), .bool false]) ?_ 0 _ rfl; (with_reducible repeat (first | refine blk_drewN ?_ _ | refine blk_drew ?_ | refine blk_alloc ?_ _)); exact BK272.out⟩, ⟨by repeat (first | (with_reducible first | exact HB.out | apply below_alloc | apply pw_below_drewN | apply below_drew1 | refine below_set ?_ GE258.out | refine below_set ?_ GE259.out | refine below_set ?_ GE260.out | refine below_set ?_ GE267.out | refine below_set ?_ GE272.out) | exact HB.out)⟩⟩
          · rw [if_neg c51] at H
            have c51b0 : (!(t263.toList == t268.toList) || (!(t264.toList == t269.toList) || (!(t265 == t270)))) = false := by simpa using c51
            clear c51
            (first | rw [c51b0] | (simp only [i64_w, i32_w]; rw [c51b0]) | skip)
            by_cases c61 : (t266 != t271) = true
            · rw [if_pos c61] at H
              have c61b0 : (t266 != t271) = true := c61
              (try (have c61b1 : decide (t266 = t271) = false := by simpa using c61))
              (try (have c61b2 : (t266 == t271) = false := by simpa using c61))
              (try (have c61b3 : ¬ (t266 = t271) := by simpa using c61))
              clear c61
              have H' := Aside0.mk H
              clear H
              have hnb62 := NB267_258.out
              have hnc62 := NB258_267.out
              have hnb63 := NB267_259.out
              have hnc63 := NB259_267.out
              have hnb64 := NB267_260.out
              have hnc64 := NB260_267.out
              have hnb65 := NB267_272.out
              have hnc65 := NB272_267.out
              have hcz66_0 : w45.cell? ⟨gb267, 0, none⟩ = some (.string t263) := (blk_cell BK267.out 0).trans rfl
              have hcz66_1 : w45.cell? ⟨gb267, 1, none⟩ = some (.string t264) := (blk_cell BK267.out 1).trans rfl
              have hcz66_2 : w45.cell? ⟨gb267, 2, none⟩ = some (.bool t265) := (blk_cell BK267.out 2).trans rfl
              have hfz66_0 := blk_frozen BK267.out 0
              have hfz66_1 := blk_frozen BK267.out 1
              have hfz66_2 := blk_frozen BK267.out 2
              have hnb67 := NB272_258.out
              have hnc67 := NB258_272.out
              have hnb68 := NB272_259.out
              have hnc68 := NB259_272.out
              have hnb69 := NB272_260.out
              have hnc69 := NB260_272.out
              have hcz70_0 : w45.cell? ⟨gb272, 0, none⟩ = some (.string (⟨#[]⟩ : ByteArray)) := (blk_cell BK272.out 0).trans rfl
              have hcz70_1 : w45.cell? ⟨gb272, 1, none⟩ = some (.string (⟨#[]⟩ : ByteArray)) := (blk_cell BK272.out 1).trans rfl
              have hcz70_2 : w45.cell? ⟨gb272, 2, none⟩ = some (.bool false) := (blk_cell BK272.out 2).trans rfl
              have hfz70_0 := blk_frozen BK272.out 0
              have hfz70_1 := blk_frozen BK272.out 1
              have hfz70_2 := blk_frozen BK272.out 2
              go_wp2
              go_meet
              case rel => exact ⟨_, (true), (by first | rfl | (simp; done) | (simp [*]; done)), H', ⟨by have := HJ3.out; first | omega | exact Nat.le_refl _⟩, ⟨by (with_reducible repeat (first | refine blk_drewN ?_ _ | refine blk_drew ?_ | refine blk_alloc ?_ _)); refine blk_far ?_ NB258_272.out _; (with_reducible repeat (first | refine blk_drewN ?_ _ | refine blk_drew ?_ | refine blk_alloc ?_ _)); refine blk_far ?_ NB258_272.out _; (with_reducible repeat (first | refine blk_drewN ?_ _ | refine blk_drew ?_ | refine blk_alloc ?_ _)); refine blk_far ?_ NB258_272.out _; (with_reducible repeat (first | refine blk_drewN ?_ _ | refine blk_drew ?_ | refine blk_alloc ?_ _)); exact BK258.out⟩, ⟨by (with_reducible repeat (first | refine blk_drewN ?_ _ | refine blk_drew ?_ | refine blk_alloc ?_ _)); refine blk_far ?_ NB259_272.out _; (with_reducible repeat (first | refine blk_drewN ?_ _ | refine blk_drew ?_ | refine blk_alloc ?_ _)); refine blk_far ?_ NB259_272.out _; (with_reducible repeat (first | refine blk_drewN ?_ _ | refine blk_drew ?_ | refine blk_alloc ?_ _)); refine blk_far ?_ NB259_272.out _; (with_reducible repeat (first | refine blk_drewN ?_ _ | refine blk_drew ?_ | refine blk_alloc ?_ _)); exact BK259.out⟩, ⟨by (with_reducible repeat (first | refine blk_drewN ?_ _ | refine blk_drew ?_ | refine blk_alloc ?_ _)); refine blk_far ?_ NB260_272.out _; (with_reducible repeat (first | refine blk_drewN ?_ _ | refine blk_drew ?_ | refine blk_alloc ?_ _)); refine blk_far ?_ NB260_272.out _; (with_reducible repeat (first | refine blk_drewN ?_ _ | refine blk_drew ?_ | refine blk_alloc ?_ _)); refine blk_far ?_ NB260_272.out _; (with_reducible repeat (first | refine blk_drewN ?_ _ | refine blk_drew ?_ | refine blk_alloc ?_ _)); exact BK260.out⟩, ⟨by (with_reducible repeat (first | refine blk_drewN ?_ _ | refine blk_drew ?_ | refine blk_alloc ?_ _)); refine blk_far ?_ NB267_272.out _; (with_reducible repeat (first | refine blk_drewN ?_ _ | refine blk_drew ?_ | refine blk_alloc ?_ _)); refine blk_far ?_ NB267_272.out _; (with_reducible repeat (first | refine blk_drewN ?_ _ | refine blk_drew ?_ | refine blk_alloc ?_ _)); refine blk_far ?_ NB267_272.out _; (with_reducible repeat (first | refine blk_drewN ?_ _ | refine blk_drew ?_ | refine blk_alloc ?_ _)); exact BK267.out⟩, ⟨by (with_reducible repeat (first | refine blk_drewN ?_ _ | refine blk_drew ?_ | refine blk_alloc ?_ _)); refine blk_put (cs := #[.string t268, .string t269, .bool false]) ?_ 2 _ rfl; (with_reducible repeat (first | refine blk_drewN ?_ _ | refine blk_drew ?_ | refine blk_alloc ?_ _)); refine blk_put (cs := #[.string t268, .string (⟨#[]⟩ : ByteArray), .bool false]) ?_ 1 _ rfl; (with_reducible repeat (first | refine blk_drewN ?_ _ | refine blk_drew ?_ | refine blk_alloc ?_ _)); refine blk_put (cs := #[.string (⟨#[]⟩ : ByteArray), .string (⟨#[]⟩ : ByteArray), .bool false]) ?_ 0 _ rfl; (with_reducible repeat (first | refine blk_drewN ?_ _ | refine blk_drew ?_ | refine blk_alloc ?_ _)); exact BK272.out⟩, ⟨by repeat (first | (with_reducible first | exact HB.out | apply below_alloc | apply pw_below_drewN | apply below_drew1 | refine below_set ?_ GE258.out | refine below_set ?_ GE259.out | refine below_set ?_ GE260.out | refine below_set ?_ GE267.out | refine below_set ?_ GE272.out) | exact HB.out)⟩⟩
            · rw [if_neg c61] at H
              have c61b0 : (t266 != t271) = false := by simpa using c61
              (try (have c61b1 : decide (t266 = t271) = true := by simpa using c61))
              (try (have c61b2 : (t266 == t271) = true := by simpa using c61))
              clear c61
              by_cases c71 : t266 = true
              · subst c71
                have H1 : ((span_Within.f kj3 t263 t264 t265 a0_0 a0_1 a0_2).bind fun t273 => (if t273 = true then ((span_Within.f kj3 t263 t264 t265 a1_0 a1_1 a1_2).bind fun t274 => (if t274 = true then ((span_Right.f kj3 a0_0 a0_1 a0_2).bind fun t275 => (if t275 = true then ((span_Within.f kj3 a0_0 a0_1 a0_2 a0_0 a0_1 a0_2).bind fun t276 => (lockkeeperlaw03_SpanOrder.j1 kj3 true (!t276) a0_0 a0_1 a0_2 a1_0 a1_1 a1_2 a2_0 a2_1 a2_2 t263 t264 t265)) else (lockkeeperlaw03_SpanOrder.j1 kj3 true false a0_0 a0_1 a0_2 a1_0 a1_1 a1_2 a2_0 a2_1 a2_2 t263 t264 t265))) else (lockkeeperlaw03_SpanOrder.j1 kj3 true true a0_0 a0_1 a0_2 a1_0 a1_1 a1_2 a2_0 a2_1 a2_2 t263 t264 t265))) else (lockkeeperlaw03_SpanOrder.j1 kj3 true true a0_0 a0_1 a0_2 a1_0 a1_1 a1_2 a2_0 a2_1 a2_2 t263 t264 t265))) = some r := by rw [if_pos rfl] at H; exact H
                clear H
                have H := H1
                clear H1
                replace H := Option.bind_eq_some_iff.mp H
                obtain ⟨t273, A720, H⟩ := H
                replace H : (if t273 = true then ((span_Within.f kj3 t263 t264 t265 a1_0 a1_1 a1_2).bind fun t274 => (if t274 = true then ((span_Right.f kj3 a0_0 a0_1 a0_2).bind fun t275 => (if t275 = true then ((span_Within.f kj3 a0_0 a0_1 a0_2 a0_0 a0_1 a0_2).bind fun t276 => (lockkeeperlaw03_SpanOrder.j1 kj3 true (!t276) a0_0 a0_1 a0_2 a1_0 a1_1 a1_2 a2_0 a2_1 a2_2 t263 t264 t265)) else (lockkeeperlaw03_SpanOrder.j1 kj3 true false a0_0 a0_1 a0_2 a1_0 a1_1 a1_2 a2_0 a2_1 a2_2 t263 t264 t265))) else (lockkeeperlaw03_SpanOrder.j1 kj3 true true a0_0 a0_1 a0_2 a1_0 a1_1 a1_2 a2_0 a2_1 a2_2 t263 t264 t265))) else (lockkeeperlaw03_SpanOrder.j1 kj3 true true a0_0 a0_1 a0_2 a1_0 a1_1 a1_2 a2_0 a2_1 a2_2 t263 t264 t265)) = some r := H
                have A72 := Aside0.mk A720
                clear A720
                by_cases c73 : t273 = true
                · subst c73
                  have H1 : ((span_Within.f kj3 t263 t264 t265 a1_0 a1_1 a1_2).bind fun t274 => (if t274 = true then ((span_Right.f kj3 a0_0 a0_1 a0_2).bind fun t275 => (if t275 = true then ((span_Within.f kj3 a0_0 a0_1 a0_2 a0_0 a0_1 a0_2).bind fun t276 => (lockkeeperlaw03_SpanOrder.j1 kj3 true (!t276) a0_0 a0_1 a0_2 a1_0 a1_1 a1_2 a2_0 a2_1 a2_2 t263 t264 t265)) else (lockkeeperlaw03_SpanOrder.j1 kj3 true false a0_0 a0_1 a0_2 a1_0 a1_1 a1_2 a2_0 a2_1 a2_2 t263 t264 t265))) else (lockkeeperlaw03_SpanOrder.j1 kj3 true true a0_0 a0_1 a0_2 a1_0 a1_1 a1_2 a2_0 a2_1 a2_2 t263 t264 t265))) = some r := by rw [if_pos rfl] at H; exact H
                  clear H
                  have H := H1
                  clear H1
                  replace H := Option.bind_eq_some_iff.mp H
                  obtain ⟨t274, A740, H⟩ := H
                  replace H : (if t274 = true then ((span_Right.f kj3 a0_0 a0_1 a0_2).bind fun t275 => (if t275 = true then ((span_Within.f kj3 a0_0 a0_1 a0_2 a0_0 a0_1 a0_2).bind fun t276 => (lockkeeperlaw03_SpanOrder.j1 kj3 true (!t276) a0_0 a0_1 a0_2 a1_0 a1_1 a1_2 a2_0 a2_1 a2_2 t263 t264 t265)) else (lockkeeperlaw03_SpanOrder.j1 kj3 true false a0_0 a0_1 a0_2 a1_0 a1_1 a1_2 a2_0 a2_1 a2_2 t263 t264 t265))) else (lockkeeperlaw03_SpanOrder.j1 kj3 true true a0_0 a0_1 a0_2 a1_0 a1_1 a1_2 a2_0 a2_1 a2_2 t263 t264 t265)) = some r := H
                  have A74 := Aside0.mk A740
                  clear A740
                  by_cases c75 : t274 = true
                  · subst c75
                    have H1 : ((span_Right.f kj3 a0_0 a0_1 a0_2).bind fun t275 => (if t275 = true then ((span_Within.f kj3 a0_0 a0_1 a0_2 a0_0 a0_1 a0_2).bind fun t276 => (lockkeeperlaw03_SpanOrder.j1 kj3 true (!t276) a0_0 a0_1 a0_2 a1_0 a1_1 a1_2 a2_0 a2_1 a2_2 t263 t264 t265)) else (lockkeeperlaw03_SpanOrder.j1 kj3 true false a0_0 a0_1 a0_2 a1_0 a1_1 a1_2 a2_0 a2_1 a2_2 t263 t264 t265))) = some r := by rw [if_pos rfl] at H; exact H
                    clear H
                    have H := H1
                    clear H1
                    replace H := Option.bind_eq_some_iff.mp H
                    obtain ⟨t275, A760, H⟩ := H
                    replace H : (if t275 = true then ((span_Within.f kj3 a0_0 a0_1 a0_2 a0_0 a0_1 a0_2).bind fun t276 => (lockkeeperlaw03_SpanOrder.j1 kj3 true (!t276) a0_0 a0_1 a0_2 a1_0 a1_1 a1_2 a2_0 a2_1 a2_2 t263 t264 t265)) else (lockkeeperlaw03_SpanOrder.j1 kj3 true false a0_0 a0_1 a0_2 a1_0 a1_1 a1_2 a2_0 a2_1 a2_2 t263 t264 t265)) = some r := H
                    have A76 := Aside0.mk A760
                    clear A760
                    by_cases c77 : t275 = true
                    · subst c77
                      have H1 : ((span_Within.f kj3 a0_0 a0_1 a0_2 a0_0 a0_1 a0_2).bind fun t276 => (lockkeeperlaw03_SpanOrder.j1 kj3 true (!t276) a0_0 a0_1 a0_2 a1_0 a1_1 a1_2 a2_0 a2_1 a2_2 t263 t264 t265)) = some r := by rw [if_pos rfl] at H; exact H
                      clear H
                      have H := H1
                      clear H1
                      replace H := Option.bind_eq_some_iff.mp H
                      obtain ⟨t276, A780, H⟩ := H
                      replace H : (lockkeeperlaw03_SpanOrder.j1 kj3 true (!t276) a0_0 a0_1 a0_2 a1_0 a1_1 a1_2 a2_0 a2_1 a2_2 t263 t264 t265) = some r := H
                      have A78 := Aside0.mk A780
                      clear A780
                      have H' := Aside0.mk H
                      clear H
                      have hnb79 := NB267_258.out
                      have hnc79 := NB258_267.out
                      have hnb80 := NB267_259.out
                      have hnc80 := NB259_267.out
                      have hnb81 := NB267_260.out
                      have hnc81 := NB260_267.out
                      have hnb82 := NB267_272.out
                      have hnc82 := NB272_267.out
                      have hcz83_0 : w45.cell? ⟨gb267, 0, none⟩ = some (.string t263) := (blk_cell BK267.out 0).trans rfl
                      have hcz83_1 : w45.cell? ⟨gb267, 1, none⟩ = some (.string t264) := (blk_cell BK267.out 1).trans rfl
                      have hcz83_2 : w45.cell? ⟨gb267, 2, none⟩ = some (.bool t265) := (blk_cell BK267.out 2).trans rfl
                      have hfz83_0 := blk_frozen BK267.out 0
                      have hfz83_1 := blk_frozen BK267.out 1
                      have hfz83_2 := blk_frozen BK267.out 2
                      have hnb84 := NB272_258.out
                      have hnc84 := NB258_272.out
                      have hnb85 := NB272_259.out
                      have hnc85 := NB259_272.out
                      have hnb86 := NB272_260.out
                      have hnc86 := NB260_272.out
                      have hcz87_0 : w45.cell? ⟨gb272, 0, none⟩ = some (.string (⟨#[]⟩ : ByteArray)) := (blk_cell BK272.out 0).trans rfl
                      have hcz87_1 : w45.cell? ⟨gb272, 1, none⟩ = some (.string (⟨#[]⟩ : ByteArray)) := (blk_cell BK272.out 1).trans rfl
                      have hcz87_2 : w45.cell? ⟨gb272, 2, none⟩ = some (.bool false) := (blk_cell BK272.out 2).trans rfl
                      have hfz87_0 := blk_frozen BK272.out 0
                      have hfz87_1 := blk_frozen BK272.out 1
                      have hfz87_2 := blk_frozen BK272.out 2
                      have hnb88 := NB258_259.out
                      have hnc88 := NB259_258.out
                      have hnb89 := NB258_260.out
                      have hnc89 := NB260_258.out
                      have hcz90_0 : w45.cell? ⟨gb258, 0, none⟩ = some (.string a0_0) := (blk_cell BK258.out 0).trans rfl
                      have hcz90_1 : w45.cell? ⟨gb258, 1, none⟩ = some (.string a0_1) := (blk_cell BK258.out 1).trans rfl
                      have hcz90_2 : w45.cell? ⟨gb258, 2, none⟩ = some (.bool a0_2) := (blk_cell BK258.out 2).trans rfl
                      have hfz90_0 := blk_frozen BK258.out 0
                      have hfz90_1 := blk_frozen BK258.out 1
                      have hfz90_2 := blk_frozen BK258.out 2
                      go_wp2_with (first | (go_at_call 20; (with_reducible refine (span_Within.calls kj3 t263 t264 t265 a0_0 a0_1 a0_2 true _ A72.out).mono ?_); rintro e w91 ⟨rfl, hb⟩; have n0_ := Aside0.mk (blk_below (g := gb258) (o := .cells #[.string a0_0, .string a0_1, .bool a0_2] 31 (0, 0)) (by (with_reducible repeat (first | refine blk_drewN ?_ _ | refine blk_drew ?_ | refine blk_alloc ?_ _)); refine blk_far ?_ NB258_272.out _; (with_reducible repeat (first | refine blk_drewN ?_ _ | refine blk_drew ?_ | refine blk_alloc ?_ _)); refine blk_far ?_ NB258_272.out _; (with_reducible repeat (first | refine blk_drewN ?_ _ | refine blk_drew ?_ | refine blk_alloc ?_ _)); refine blk_far ?_ NB258_272.out _; (with_reducible repeat (first | refine blk_drewN ?_ _ | refine blk_drew ?_ | refine blk_alloc ?_ _)); exact BK258.out) hb); have n1_ := Aside0.mk (blk_below (g := gb259) (o := .cells #[.string a1_0, .string a1_1, .bool a1_2] 31 (0, 0)) (by (with_reducible repeat (first | refine blk_drewN ?_ _ | refine blk_drew ?_ | refine blk_alloc ?_ _)); refine blk_far ?_ NB259_272.out _; (with_reducible repeat (first | refine blk_drewN ?_ _ | refine blk_drew ?_ | refine blk_alloc ?_ _)); refine blk_far ?_ NB259_272.out _; (with_reducible repeat (first | refine blk_drewN ?_ _ | refine blk_drew ?_ | refine blk_alloc ?_ _)); refine blk_far ?_ NB259_272.out _; (with_reducible repeat (first | refine blk_drewN ?_ _ | refine blk_drew ?_ | refine blk_alloc ?_ _)); exact BK259.out) hb); have n2_ := Aside0.mk (blk_below (g := gb260) (o := .cells #[.string a2_0, .string a2_1, .bool a2_2] 31 (0, 0)) (by (with_reducible repeat (first | refine blk_drewN ?_ _ | refine blk_drew ?_ | refine blk_alloc ?_ _)); refine blk_far ?_ NB260_272.out _; (with_reducible repeat (first | refine blk_drewN ?_ _ | refine blk_drew ?_ | refine blk_alloc ?_ _)); refine blk_far ?_ NB260_272.out _; (with_reducible repeat (first | refine blk_drewN ?_ _ | refine blk_drew ?_ | refine blk_alloc ?_ _)); refine blk_far ?_ NB260_272.out _; (with_reducible repeat (first | refine blk_drewN ?_ _ | refine blk_drew ?_ | refine blk_alloc ?_ _)); exact BK260.out) hb); have n3_ := Aside0.mk (blk_below (g := gb267) (o := .cells #[.string t263, .string t264, .bool t265] 31 (0, 0)) (by (with_reducible repeat (first | refine blk_drewN ?_ _ | refine blk_drew ?_ | refine blk_alloc ?_ _)); refine blk_far ?_ NB267_272.out _; (with_reducible repeat (first | refine blk_drewN ?_ _ | refine blk_drew ?_ | refine blk_alloc ?_ _)); refine blk_far ?_ NB267_272.out _; (with_reducible repeat (first | refine blk_drewN ?_ _ | refine blk_drew ?_ | refine blk_alloc ?_ _)); refine blk_far ?_ NB267_272.out _; (with_reducible repeat (first | refine blk_drewN ?_ _ | refine blk_drew ?_ | refine blk_alloc ?_ _)); exact BK267.out) hb); have n4_ := Aside0.mk (blk_below (g := gb272) (o := .cells #[.string t268, .string t269, .bool t270] 31 (0, 0)) (by (with_reducible repeat (first | refine blk_drewN ?_ _ | refine blk_drew ?_ | refine blk_alloc ?_ _)); refine blk_put (cs := #[.string t268, .string t269, .bool false]) ?_ 2 _ rfl; (with_reducible repeat (first | refine blk_drewN ?_ _ | refine blk_drew ?_ | refine blk_alloc ?_ _)); refine blk_put (cs := #[.string t268, .string (⟨#[]⟩ : ByteArray), .bool false]) ?_ 1 _ rfl; (with_reducible repeat (first | refine blk_drewN ?_ _ | refine blk_drew ?_ | refine blk_alloc ?_ _)); refine blk_put (cs := #[.string (⟨#[]⟩ : ByteArray), .string (⟨#[]⟩ : ByteArray), .bool false]) ?_ 0 _ rfl; (with_reducible repeat (first | refine blk_drewN ?_ _ | refine blk_drew ?_ | refine blk_alloc ?_ _)); exact BK272.out) hb); have n5_ := Aside0.mk (below_step (by repeat (first | (with_reducible first | exact HB.out | apply below_alloc | apply pw_below_drewN | apply below_drew1 | refine below_set ?_ GE258.out | refine below_set ?_ GE259.out | refine below_set ?_ GE260.out | refine below_set ?_ GE267.out | refine below_set ?_ GE272.out) | exact HB.out)) hb); clear BK258; clear BK259; clear BK260; clear BK267; clear BK272; clear HB; have BK258 := n0_; have BK259 := n1_; have BK260 := n2_; have BK267 := n3_; have BK272 := n4_; have HB := n5_; clear n0_ n1_ n2_ n3_ n4_ n5_; (try clear hb); (try clear hb2); (try clear hk); (try clear hi); have hcz92_0 : w91.cell? ⟨gb267, 0, none⟩ = some (.string t263) := (blk_cell BK267.out 0).trans rfl; have hcz92_1 : w91.cell? ⟨gb267, 1, none⟩ = some (.string t264) := (blk_cell BK267.out 1).trans rfl; have hcz92_2 : w91.cell? ⟨gb267, 2, none⟩ = some (.bool t265) := (blk_cell BK267.out 2).trans rfl; have hfz92_0 := blk_frozen BK267.out 0; have hfz92_1 := blk_frozen BK267.out 1; have hfz92_2 := blk_frozen BK267.out 2; have hnb93 := NB259_260.out; have hnc93 := NB260_259.out; have hcz94_0 : w91.cell? ⟨gb259, 0, none⟩ = some (.string a1_0) := (blk_cell BK259.out 0).trans rfl; have hcz94_1 : w91.cell? ⟨gb259, 1, none⟩ = some (.string a1_1) := (blk_cell BK259.out 1).trans rfl; have hcz94_2 : w91.cell? ⟨gb259, 2, none⟩ = some (.bool a1_2) := (blk_cell BK259.out 2).trans rfl; have hfz94_0 := blk_frozen BK259.out 0; have hfz94_1 := blk_frozen BK259.out 1; have hfz94_2 := blk_frozen BK259.out 2) | (go_at_call 20; (with_reducible refine (span_Within.calls kj3 t263 t264 t265 a1_0 a1_1 a1_2 true _ A74.out).mono ?_); rintro e w95 ⟨rfl, hb⟩; have n0_ := Aside0.mk (blk_below (g := gb258) (o := .cells #[.string a0_0, .string a0_1, .bool a0_2] 31 (0, 0)) (by (with_reducible repeat (first | refine blk_drewN ?_ _ | refine blk_drew ?_ | refine blk_alloc ?_ _)); exact BK258.out) hb); have n1_ := Aside0.mk (blk_below (g := gb259) (o := .cells #[.string a1_0, .string a1_1, .bool a1_2] 31 (0, 0)) (by (with_reducible repeat (first | refine blk_drewN ?_ _ | refine blk_drew ?_ | refine blk_alloc ?_ _)); exact BK259.out) hb); have n2_ := Aside0.mk (blk_below (g := gb260) (o := .cells #[.string a2_0, .string a2_1, .bool a2_2] 31 (0, 0)) (by (with_reducible repeat (first | refine blk_drewN ?_ _ | refine blk_drew ?_ | refine blk_alloc ?_ _)); exact BK260.out) hb); have n3_ := Aside0.mk (blk_below (g := gb267) (o := .cells #[.string t263, .string t264, .bool t265] 31 (0, 0)) (by (with_reducible repeat (first | refine blk_drewN ?_ _ | refine blk_drew ?_ | refine blk_alloc ?_ _)); exact BK267.out) hb); have n4_ := Aside0.mk (blk_below (g := gb272) (o := .cells #[.string t268, .string t269, .bool t270] 31 (0, 0)) (by (with_reducible repeat (first | refine blk_drewN ?_ _ | refine blk_drew ?_ | refine blk_alloc ?_ _)); exact BK272.out) hb); have n5_ := Aside0.mk (below_step (by repeat (first | (with_reducible first | exact HB.out | apply below_alloc | apply pw_below_drewN | apply below_drew1 | refine below_set ?_ GE258.out | refine below_set ?_ GE259.out | refine below_set ?_ GE260.out | refine below_set ?_ GE267.out | refine below_set ?_ GE272.out) | exact HB.out)) hb); clear BK258; clear BK259; clear BK260; clear BK267; clear BK272; clear HB; have BK258 := n0_; have BK259 := n1_; have BK260 := n2_; have BK267 := n3_; have BK272 := n4_; have HB := n5_; clear n0_ n1_ n2_ n3_ n4_ n5_; (try clear hb); (try clear hb2); (try clear hk); (try clear hi); have hcz96_0 : w95.cell? ⟨gb258, 0, none⟩ = some (.string a0_0) := (blk_cell BK258.out 0).trans rfl; have hcz96_1 : w95.cell? ⟨gb258, 1, none⟩ = some (.string a0_1) := (blk_cell BK258.out 1).trans rfl; have hcz96_2 : w95.cell? ⟨gb258, 2, none⟩ = some (.bool a0_2) := (blk_cell BK258.out 2).trans rfl; have hfz96_0 := blk_frozen BK258.out 0; have hfz96_1 := blk_frozen BK258.out 1; have hfz96_2 := blk_frozen BK258.out 2) | (go_at_call 17; (with_reducible refine (span_Right.calls kj3 a0_0 a0_1 a0_2 true _ A76.out).mono ?_); rintro e w97 ⟨rfl, hb⟩; have n0_ := Aside0.mk (blk_below (g := gb258) (o := .cells #[.string a0_0, .string a0_1, .bool a0_2] 31 (0, 0)) (by (with_reducible repeat (first | refine blk_drewN ?_ _ | refine blk_drew ?_ | refine blk_alloc ?_ _)); exact BK258.out) hb); have n1_ := Aside0.mk (blk_below (g := gb259) (o := .cells #[.string a1_0, .string a1_1, .bool a1_2] 31 (0, 0)) (by (with_reducible repeat (first | refine blk_drewN ?_ _ | refine blk_drew ?_ | refine blk_alloc ?_ _)); exact BK259.out) hb); have n2_ := Aside0.mk (blk_below (g := gb260) (o := .cells #[.string a2_0, .string a2_1, .bool a2_2] 31 (0, 0)) (by (with_reducible repeat (first | refine blk_drewN ?_ _ | refine blk_drew ?_ | refine blk_alloc ?_ _)); exact BK260.out) hb); have n3_ := Aside0.mk (blk_below (g := gb267) (o := .cells #[.string t263, .string t264, .bool t265] 31 (0, 0)) (by (with_reducible repeat (first | refine blk_drewN ?_ _ | refine blk_drew ?_ | refine blk_alloc ?_ _)); exact BK267.out) hb); have n4_ := Aside0.mk (blk_below (g := gb272) (o := .cells #[.string t268, .string t269, .bool t270] 31 (0, 0)) (by (with_reducible repeat (first | refine blk_drewN ?_ _ | refine blk_drew ?_ | refine blk_alloc ?_ _)); exact BK272.out) hb); have n5_ := Aside0.mk (below_step (by repeat (first | (with_reducible first | exact HB.out | apply below_alloc | apply pw_below_drewN | apply below_drew1 | refine below_set ?_ GE258.out | refine below_set ?_ GE259.out | refine below_set ?_ GE260.out | refine below_set ?_ GE267.out | refine below_set ?_ GE272.out) | exact HB.out)) hb); clear BK258; clear BK259; clear BK260; clear BK267; clear BK272; clear HB; have BK258 := n0_; have BK259 := n1_; have BK260 := n2_; have BK267 := n3_; have BK272 := n4_; have HB := n5_; clear n0_ n1_ n2_ n3_ n4_ n5_; (try clear hb); (try clear hb2); (try clear hk); (try clear hi); have hcz98_0 : w97.cell? ⟨gb258, 0, none⟩ = some (.string a0_0) := (blk_cell BK258.out 0).trans rfl; have hcz98_1 : w97.cell? ⟨gb258, 1, none⟩ = some (.string a0_1) := (blk_cell BK258.out 1).trans rfl; have hcz98_2 : w97.cell? ⟨gb258, 2, none⟩ = some (.bool a0_2) := (blk_cell BK258.out 2).trans rfl; have hfz98_0 := blk_frozen BK258.out 0; have hfz98_1 := blk_frozen BK258.out 1; have hfz98_2 := blk_frozen BK258.out 2) | (go_at_call 20; (with_reducible refine (span_Within.calls kj3 a0_0 a0_1 a0_2 a0_0 a0_1 a0_2 t276 _ A78.out).mono ?_); rintro e w99 ⟨rfl, hb⟩; have n0_ := Aside0.mk (blk_below (g := gb258) (o := .cells #[.string a0_0, .string a0_1, .bool a0_2] 31 (0, 0)) (by (with_reducible repeat (first | refine blk_drewN ?_ _ | refine blk_drew ?_ | refine blk_alloc ?_ _)); exact BK258.out) hb); have n1_ := Aside0.mk (blk_below (g := gb259) (o := .cells #[.string a1_0, .string a1_1, .bool a1_2] 31 (0, 0)) (by (with_reducible repeat (first | refine blk_drewN ?_ _ | refine blk_drew ?_ | refine blk_alloc ?_ _)); exact BK259.out) hb); have n2_ := Aside0.mk (blk_below (g := gb260) (o := .cells #[.string a2_0, .string a2_1, .bool a2_2] 31 (0, 0)) (by (with_reducible repeat (first | refine blk_drewN ?_ _ | refine blk_drew ?_ | refine blk_alloc ?_ _)); exact BK260.out) hb); have n3_ := Aside0.mk (blk_below (g := gb267) (o := .cells #[.string t263, .string t264, .bool t265] 31 (0, 0)) (by (with_reducible repeat (first | refine blk_drewN ?_ _ | refine blk_drew ?_ | refine blk_alloc ?_ _)); exact BK267.out) hb); have n4_ := Aside0.mk (blk_below (g := gb272) (o := .cells #[.string t268, .string t269, .bool t270] 31 (0, 0)) (by (with_reducible repeat (first | refine blk_drewN ?_ _ | refine blk_drew ?_ | refine blk_alloc ?_ _)); exact BK272.out) hb); have n5_ := Aside0.mk (below_step (by repeat (first | (with_reducible first | exact HB.out | apply below_alloc | apply pw_below_drewN | apply below_drew1 | refine below_set ?_ GE258.out | refine below_set ?_ GE259.out | refine below_set ?_ GE260.out | refine below_set ?_ GE267.out | refine below_set ?_ GE272.out) | exact HB.out)) hb); clear BK258; clear BK259; clear BK260; clear BK267; clear BK272; clear HB; have BK258 := n0_; have BK259 := n1_; have BK260 := n2_; have BK267 := n3_; have BK272 := n4_; have HB := n5_; clear n0_ n1_ n2_ n3_ n4_ n5_; (try clear hb); (try clear hb2); (try clear hk); (try clear hi)))
                      go_meet
                      case rel => exact ⟨_, (!t276), (by first | rfl | (simp; done) | (simp [*]; done)), H', ⟨by have := HJ3.out; first | omega | exact Nat.le_refl _⟩, ⟨by (with_reducible repeat (first | refine blk_drewN ?_ _ | refine blk_drew ?_ | refine blk_alloc ?_ _)); exact BK258.out⟩, ⟨by (with_reducible repeat (first | refine blk_drewN ?_ _ | refine blk_drew ?_ | refine blk_alloc ?_ _)); exact BK259.out⟩, ⟨by (with_reducible repeat (first | refine blk_drewN ?_ _ | refine blk_drew ?_ | refine blk_alloc ?_ _)); exact BK260.out⟩, ⟨by (with_reducible repeat (first | refine blk_drewN ?_ _ | refine blk_drew ?_ | refine blk_alloc ?_ _)); exact BK267.out⟩, ⟨by (with_reducible repeat (first | refine blk_drewN ?_ _ | refine blk_drew ?_ | refine blk_alloc ?_ _)); exact BK272.out⟩, ⟨by repeat (first | (with_reducible first | exact HB.out | apply below_alloc | apply pw_below_drewN | apply below_drew1 | refine below_set ?_ GE258.out | refine below_set ?_ GE259.out | refine below_set ?_ GE260.out | refine below_set ?_ GE267.out | refine below_set ?_ GE272.out) | exact HB.out)⟩⟩
                    · replace c77 := Bool.eq_false_iff.mpr c77
                      subst c77
                      have H1 : (lockkeeperlaw03_SpanOrder.j1 kj3 true false a0_0 a0_1 a0_2 a1_0 a1_1 a1_2 a2_0 a2_1 a2_2 t263 t264 t265) = some r := by rw [if_neg (show ¬ (false = true) by decide)] at H; exact H
                      clear H
                      have H := H1
                      clear H1
                      have H' := Aside0.mk H
                      clear H
                      have hnb100 := NB267_258.out
                      have hnc100 := NB258_267.out
                      have hnb101 := NB267_259.out
                      have hnc101 := NB259_267.out
                      have hnb102 := NB267_260.out
                      have hnc102 := NB260_267.out
                      have hnb103 := NB267_272.out
                      have hnc103 := NB272_267.out
                      have hcz104_0 : w45.cell? ⟨gb267, 0, none⟩ = some (.string t263) := (blk_cell BK267.out 0).trans rfl
                      have hcz104_1 : w45.cell? ⟨gb267, 1, none⟩ = some (.string t264) := (blk_cell BK267.out 1).trans rfl
                      have hcz104_2 : w45.cell? ⟨gb267, 2, none⟩ = some (.bool t265) := (blk_cell BK267.out 2).trans rfl
                      have hfz104_0 := blk_frozen BK267.out 0
                      have hfz104_1 := blk_frozen BK267.out 1
                      have hfz104_2 := blk_frozen BK267.out 2
                      have hnb105 := NB272_258.out
                      have hnc105 := NB258_272.out
                      have hnb106 := NB272_259.out
                      have hnc106 := NB259_272.out
                      have hnb107 := NB272_260.out
                      have hnc107 := NB260_272.out
                      have hcz108_0 : w45.cell? ⟨gb272, 0, none⟩ = some (.string (⟨#[]⟩ : ByteArray)) := (blk_cell BK272.out 0).trans rfl
                      have hcz108_1 : w45.cell? ⟨gb272, 1, none⟩ = some (.string (⟨#[]⟩ : ByteArray)) := (blk_cell BK272.out 1).trans rfl
                      have hcz108_2 : w45.cell? ⟨gb272, 2, none⟩ = some (.bool false) := (blk_cell BK272.out 2).trans rfl
                      have hfz108_0 := blk_frozen BK272.out 0
                      have hfz108_1 := blk_frozen BK272.out 1
                      have hfz108_2 := blk_frozen BK272.out 2
                      have hnb109 := NB258_259.out
                      have hnc109 := NB259_258.out
                      have hnb110 := NB258_260.out
                      have hnc110 := NB260_258.out
                      have hcz111_0 : w45.cell? ⟨gb258, 0, none⟩ = some (.string a0_0) := (blk_cell BK258.out 0).trans rfl
                      have hcz111_1 : w45.cell? ⟨gb258, 1, none⟩ = some (.string a0_1) := (blk_cell BK258.out 1).trans rfl
                      have hcz111_2 : w45.cell? ⟨gb258, 2, none⟩ = some (.bool a0_2) := (blk_cell BK258.out 2).trans rfl
                      have hfz111_0 := blk_frozen BK258.out 0
                      have hfz111_1 := blk_frozen BK258.out 1
                      have hfz111_2 := blk_frozen BK258.out 2
                      go_wp2_with (first | (go_at_call 20; (with_reducible refine (span_Within.calls kj3 t263 t264 t265 a0_0 a0_1 a0_2 true _ A72.out).mono ?_); rintro e w112 ⟨rfl, hb⟩; have n0_ := Aside0.mk (blk_below (g := gb258) (o := .cells #[.string a0_0, .string a0_1, .bool a0_2] 31 (0, 0)) (by (with_reducible repeat (first | refine blk_drewN ?_ _ | refine blk_drew ?_ | refine blk_alloc ?_ _)); refine blk_far ?_ NB258_272.out _; (with_reducible repeat (first | refine blk_drewN ?_ _ | refine blk_drew ?_ | refine blk_alloc ?_ _)); refine blk_far ?_ NB258_272.out _; (with_reducible repeat (first | refine blk_drewN ?_ _ | refine blk_drew ?_ | refine blk_alloc ?_ _)); refine blk_far ?_ NB258_272.out _; (with_reducible repeat (first | refine blk_drewN ?_ _ | refine blk_drew ?_ | refine blk_alloc ?_ _)); exact BK258.out) hb); have n1_ := Aside0.mk (blk_below (g := gb259) (o := .cells #[.string a1_0, .string a1_1, .bool a1_2] 31 (0, 0)) (by (with_reducible repeat (first | refine blk_drewN ?_ _ | refine blk_drew ?_ | refine blk_alloc ?_ _)); refine blk_far ?_ NB259_272.out _; (with_reducible repeat (first | refine blk_drewN ?_ _ | refine blk_drew ?_ | refine blk_alloc ?_ _)); refine blk_far ?_ NB259_272.out _; (with_reducible repeat (first | refine blk_drewN ?_ _ | refine blk_drew ?_ | refine blk_alloc ?_ _)); refine blk_far ?_ NB259_272.out _; (with_reducible repeat (first | refine blk_drewN ?_ _ | refine blk_drew ?_ | refine blk_alloc ?_ _)); exact BK259.out) hb); have n2_ := Aside0.mk (blk_below (g := gb260) (o := .cells #[.string a2_0, .string a2_1, .bool a2_2] 31 (0, 0)) (by (with_reducible repeat (first | refine blk_drewN ?_ _ | refine blk_drew ?_ | refine blk_alloc ?_ _)); refine blk_far ?_ NB260_272.out _; (with_reducible repeat (first | refine blk_drewN ?_ _ | refine blk_drew ?_ | refine blk_alloc ?_ _)); refine blk_far ?_ NB260_272.out _; (with_reducible repeat (first | refine blk_drewN ?_ _ | refine blk_drew ?_ | refine blk_alloc ?_ _)); refine blk_far ?_ NB260_272.out _; (with_reducible repeat (first | refine blk_drewN ?_ _ | refine blk_drew ?_ | refine blk_alloc ?_ _)); exact BK260.out) hb); have n3_ := Aside0.mk (blk_below (g := gb267) (o := .cells #[.string t263, .string t264, .bool t265] 31 (0, 0)) (by (with_reducible repeat (first | refine blk_drewN ?_ _ | refine blk_drew ?_ | refine blk_alloc ?_ _)); refine blk_far ?_ NB267_272.out _; (with_reducible repeat (first | refine blk_drewN ?_ _ | refine blk_drew ?_ | refine blk_alloc ?_ _)); refine blk_far ?_ NB267_272.out _; (with_reducible repeat (first | refine blk_drewN ?_ _ | refine blk_drew ?_ | refine blk_alloc ?_ _)); refine blk_far ?_ NB267_272.out _; (with_reducible repeat (first | refine blk_drewN ?_ _ | refine blk_drew ?_ | refine blk_alloc ?_ _)); exact BK267.out) hb); have n4_ := Aside0.mk (blk_below (g := gb272) (o := .cells #[.string t268, .string t269, .bool t270] 31 (0, 0)) (by (with_reducible repeat (first | refine blk_drewN ?_ _ | refine blk_drew ?_ | refine blk_alloc ?_ _)); refine blk_put (cs := #[.string t268, .string t269, .bool false]) ?_ 2 _ rfl; (with_reducible repeat (first | refine blk_drewN ?_ _ | refine blk_drew ?_ | refine blk_alloc ?_ _)); refine blk_put (cs := #[.string t268, .string (⟨#[]⟩ : ByteArray), .bool false]) ?_ 1 _ rfl; (with_reducible repeat (first | refine blk_drewN ?_ _ | refine blk_drew ?_ | refine blk_alloc ?_ _)); refine blk_put (cs := #[.string (⟨#[]⟩ : ByteArray), .string (⟨#[]⟩ : ByteArray), .bool false]) ?_ 0 _ rfl; (with_reducible repeat (first | refine blk_drewN ?_ _ | refine blk_drew ?_ | refine blk_alloc ?_ _)); exact BK272.out) hb); have n5_ := Aside0.mk (below_step (by repeat (first | (with_reducible first | exact HB.out | apply below_alloc | apply pw_below_drewN | apply below_drew1 | refine below_set ?_ GE258.out | refine below_set ?_ GE259.out | refine below_set ?_ GE260.out | refine below_set ?_ GE267.out | refine below_set ?_ GE272.out) | exact HB.out)) hb); clear BK258; clear BK259; clear BK260; clear BK267; clear BK272; clear HB; have BK258 := n0_; have BK259 := n1_; have BK260 := n2_; have BK267 := n3_; have BK272 := n4_; have HB := n5_; clear n0_ n1_ n2_ n3_ n4_ n5_; (try clear hb); (try clear hb2); (try clear hk); (try clear hi); have hcz113_0 : w112.cell? ⟨gb267, 0, none⟩ = some (.string t263) := (blk_cell BK267.out 0).trans rfl; have hcz113_1 : w112.cell? ⟨gb267, 1, none⟩ = some (.string t264) := (blk_cell BK267.out 1).trans rfl; have hcz113_2 : w112.cell? ⟨gb267, 2, none⟩ = some (.bool t265) := (blk_cell BK267.out 2).trans rfl; have hfz113_0 := blk_frozen BK267.out 0; have hfz113_1 := blk_frozen BK267.out 1; have hfz113_2 := blk_frozen BK267.out 2; have hnb114 := NB259_260.out; have hnc114 := NB260_259.out; have hcz115_0 : w112.cell? ⟨gb259, 0, none⟩ = some (.string a1_0) := (blk_cell BK259.out 0).trans rfl; have hcz115_1 : w112.cell? ⟨gb259, 1, none⟩ = some (.string a1_1) := (blk_cell BK259.out 1).trans rfl; have hcz115_2 : w112.cell? ⟨gb259, 2, none⟩ = some (.bool a1_2) := (blk_cell BK259.out 2).trans rfl; have hfz115_0 := blk_frozen BK259.out 0; have hfz115_1 := blk_frozen BK259.out 1; have hfz115_2 := blk_frozen BK259.out 2) | (go_at_call 20; (with_reducible refine (span_Within.calls kj3 t263 t264 t265 a1_0 a1_1 a1_2 true _ A74.out).mono ?_); rintro e w116 ⟨rfl, hb⟩; have n0_ := Aside0.mk (blk_below (g := gb258) (o := .cells #[.string a0_0, .string a0_1, .bool a0_2] 31 (0, 0)) (by (with_reducible repeat (first | refine blk_drewN ?_ _ | refine blk_drew ?_ | refine blk_alloc ?_ _)); exact BK258.out) hb); have n1_ := Aside0.mk (blk_below (g := gb259) (o := .cells #[.string a1_0, .string a1_1, .bool a1_2] 31 (0, 0)) (by (with_reducible repeat (first | refine blk_drewN ?_ _ | refine blk_drew ?_ | refine blk_alloc ?_ _)); exact BK259.out) hb); have n2_ := Aside0.mk (blk_below (g := gb260) (o := .cells #[.string a2_0, .string a2_1, .bool a2_2] 31 (0, 0)) (by (with_reducible repeat (first | refine blk_drewN ?_ _ | refine blk_drew ?_ | refine blk_alloc ?_ _)); exact BK260.out) hb); have n3_ := Aside0.mk (blk_below (g := gb267) (o := .cells #[.string t263, .string t264, .bool t265] 31 (0, 0)) (by (with_reducible repeat (first | refine blk_drewN ?_ _ | refine blk_drew ?_ | refine blk_alloc ?_ _)); exact BK267.out) hb); have n4_ := Aside0.mk (blk_below (g := gb272) (o := .cells #[.string t268, .string t269, .bool t270] 31 (0, 0)) (by (with_reducible repeat (first | refine blk_drewN ?_ _ | refine blk_drew ?_ | refine blk_alloc ?_ _)); exact BK272.out) hb); have n5_ := Aside0.mk (below_step (by repeat (first | (with_reducible first | exact HB.out | apply below_alloc | apply pw_below_drewN | apply below_drew1 | refine below_set ?_ GE258.out | refine below_set ?_ GE259.out | refine below_set ?_ GE260.out | refine below_set ?_ GE267.out | refine below_set ?_ GE272.out) | exact HB.out)) hb); clear BK258; clear BK259; clear BK260; clear BK267; clear BK272; clear HB; have BK258 := n0_; have BK259 := n1_; have BK260 := n2_; have BK267 := n3_; have BK272 := n4_; have HB := n5_; clear n0_ n1_ n2_ n3_ n4_ n5_; (try clear hb); (try clear hb2); (try clear hk); (try clear hi); have hcz117_0 : w116.cell? ⟨gb258, 0, none⟩ = some (.string a0_0) := (blk_cell BK258.out 0).trans rfl; have hcz117_1 : w116.cell? ⟨gb258, 1, none⟩ = some (.string a0_1) := (blk_cell BK258.out 1).trans rfl; have hcz117_2 : w116.cell? ⟨gb258, 2, none⟩ = some (.bool a0_2) := (blk_cell BK258.out 2).trans rfl; have hfz117_0 := blk_frozen BK258.out 0; have hfz117_1 := blk_frozen BK258.out 1; have hfz117_2 := blk_frozen BK258.out 2) | (go_at_call 17; (with_reducible refine (span_Right.calls kj3 a0_0 a0_1 a0_2 false _ A76.out).mono ?_); rintro e w118 ⟨rfl, hb⟩; have n0_ := Aside0.mk (blk_below (g := gb258) (o := .cells #[.string a0_0, .string a0_1, .bool a0_2] 31 (0, 0)) (by (with_reducible repeat (first | refine blk_drewN ?_ _ | refine blk_drew ?_ | refine blk_alloc ?_ _)); exact BK258.out) hb); have n1_ := Aside0.mk (blk_below (g := gb259) (o := .cells #[.string a1_0, .string a1_1, .bool a1_2] 31 (0, 0)) (by (with_reducible repeat (first | refine blk_drewN ?_ _ | refine blk_drew ?_ | refine blk_alloc ?_ _)); exact BK259.out) hb); have n2_ := Aside0.mk (blk_below (g := gb260) (o := .cells #[.string a2_0, .string a2_1, .bool a2_2] 31 (0, 0)) (by (with_reducible repeat (first | refine blk_drewN ?_ _ | refine blk_drew ?_ | refine blk_alloc ?_ _)); exact BK260.out) hb); have n3_ := Aside0.mk (blk_below (g := gb267) (o := .cells #[.string t263, .string t264, .bool t265] 31 (0, 0)) (by (with_reducible repeat (first | refine blk_drewN ?_ _ | refine blk_drew ?_ | refine blk_alloc ?_ _)); exact BK267.out) hb); have n4_ := Aside0.mk (blk_below (g := gb272) (o := .cells #[.string t268, .string t269, .bool t270] 31 (0, 0)) (by (with_reducible repeat (first | refine blk_drewN ?_ _ | refine blk_drew ?_ | refine blk_alloc ?_ _)); exact BK272.out) hb); have n5_ := Aside0.mk (below_step (by repeat (first | (with_reducible first | exact HB.out | apply below_alloc | apply pw_below_drewN | apply below_drew1 | refine below_set ?_ GE258.out | refine below_set ?_ GE259.out | refine below_set ?_ GE260.out | refine below_set ?_ GE267.out | refine below_set ?_ GE272.out) | exact HB.out)) hb); clear BK258; clear BK259; clear BK260; clear BK267; clear BK272; clear HB; have BK258 := n0_; have BK259 := n1_; have BK260 := n2_; have BK267 := n3_; have BK272 := n4_; have HB := n5_; clear n0_ n1_ n2_ n3_ n4_ n5_; (try clear hb); (try clear hb2); (try clear hk); (try clear hi)))
                      go_meet
                      case rel => exact ⟨_, (false), (by first | rfl | (simp; done) | (simp [*]; done)), H', ⟨by have := HJ3.out; first | omega | exact Nat.le_refl _⟩, ⟨by (with_reducible repeat (first | refine blk_drewN ?_ _ | refine blk_drew ?_ | refine blk_alloc ?_ _)); exact BK258.out⟩, ⟨by (with_reducible repeat (first | refine blk_drewN ?_ _ | refine blk_drew ?_ | refine blk_alloc ?_ _)); exact BK259.out⟩, ⟨by (with_reducible repeat (first | refine blk_drewN ?_ _ | refine blk_drew ?_ | refine blk_alloc ?_ _)); exact BK260.out⟩, ⟨by (with_reducible repeat (first | refine blk_drewN ?_ _ | refine blk_drew ?_ | refine blk_alloc ?_ _)); exact BK267.out⟩, ⟨by (with_reducible repeat (first | refine blk_drewN ?_ _ | refine blk_drew ?_ | refine blk_alloc ?_ _)); exact BK272.out⟩, ⟨by repeat (first | (with_reducible first | exact HB.out | apply below_alloc | apply pw_below_drewN | apply below_drew1 | refine below_set ?_ GE258.out | refine below_set ?_ GE259.out | refine below_set ?_ GE260.out | refine below_set ?_ GE267.out | refine below_set ?_ GE272.out) | exact HB.out)⟩⟩
                  · replace c75 := Bool.eq_false_iff.mpr c75
                    subst c75
                    have H1 : (lockkeeperlaw03_SpanOrder.j1 kj3 true true a0_0 a0_1 a0_2 a1_0 a1_1 a1_2 a2_0 a2_1 a2_2 t263 t264 t265) = some r := by rw [if_neg (show ¬ (false = true) by decide)] at H; exact H
                    clear H
                    have H := H1
                    clear H1
                    have H' := Aside0.mk H
                    clear H
                    have hnb119 := NB267_258.out
                    have hnc119 := NB258_267.out
                    have hnb120 := NB267_259.out
                    have hnc120 := NB259_267.out
                    have hnb121 := NB267_260.out
                    have hnc121 := NB260_267.out
                    have hnb122 := NB267_272.out
                    have hnc122 := NB272_267.out
                    have hcz123_0 : w45.cell? ⟨gb267, 0, none⟩ = some (.string t263) := (blk_cell BK267.out 0).trans rfl
                    have hcz123_1 : w45.cell? ⟨gb267, 1, none⟩ = some (.string t264) := (blk_cell BK267.out 1).trans rfl
                    have hcz123_2 : w45.cell? ⟨gb267, 2, none⟩ = some (.bool t265) := (blk_cell BK267.out 2).trans rfl
                    have hfz123_0 := blk_frozen BK267.out 0
                    have hfz123_1 := blk_frozen BK267.out 1
                    have hfz123_2 := blk_frozen BK267.out 2
                    have hnb124 := NB272_258.out
                    have hnc124 := NB258_272.out
                    have hnb125 := NB272_259.out
                    have hnc125 := NB259_272.out
                    have hnb126 := NB272_260.out
                    have hnc126 := NB260_272.out
                    have hcz127_0 : w45.cell? ⟨gb272, 0, none⟩ = some (.string (⟨#[]⟩ : ByteArray)) := (blk_cell BK272.out 0).trans rfl
                    have hcz127_1 : w45.cell? ⟨gb272, 1, none⟩ = some (.string (⟨#[]⟩ : ByteArray)) := (blk_cell BK272.out 1).trans rfl
                    have hcz127_2 : w45.cell? ⟨gb272, 2, none⟩ = some (.bool false) := (blk_cell BK272.out 2).trans rfl
                    have hfz127_0 := blk_frozen BK272.out 0
                    have hfz127_1 := blk_frozen BK272.out 1
                    have hfz127_2 := blk_frozen BK272.out 2
                    have hnb128 := NB258_259.out
                    have hnc128 := NB259_258.out
                    have hnb129 := NB258_260.out
                    have hnc129 := NB260_258.out
                    have hcz130_0 : w45.cell? ⟨gb258, 0, none⟩ = some (.string a0_0) := (blk_cell BK258.out 0).trans rfl
                    have hcz130_1 : w45.cell? ⟨gb258, 1, none⟩ = some (.string a0_1) := (blk_cell BK258.out 1).trans rfl
                    have hcz130_2 : w45.cell? ⟨gb258, 2, none⟩ = some (.bool a0_2) := (blk_cell BK258.out 2).trans rfl
                    have hfz130_0 := blk_frozen BK258.out 0
                    have hfz130_1 := blk_frozen BK258.out 1
                    have hfz130_2 := blk_frozen BK258.out 2
                    go_wp2_with (first | (go_at_call 20; (with_reducible refine (span_Within.calls kj3 t263 t264 t265 a0_0 a0_1 a0_2 true _ A72.out).mono ?_); rintro e w131 ⟨rfl, hb⟩; have n0_ := Aside0.mk (blk_below (g := gb258) (o := .cells #[.string a0_0, .string a0_1, .bool a0_2] 31 (0, 0)) (by (with_reducible repeat (first | refine blk_drewN ?_ _ | refine blk_drew ?_ | refine blk_alloc ?_ _)); refine blk_far ?_ NB258_272.out _; (with_reducible repeat (first | refine blk_drewN ?_ _ | refine blk_drew ?_ | refine blk_alloc ?_ _)); refine blk_far ?_ NB258_272.out _; (with_reducible repeat (first | refine blk_drewN ?_ _ | refine blk_drew ?_ | refine blk_alloc ?_ _)); refine blk_far ?_ NB258_272.out _; (with_reducible repeat (first | refine blk_drewN ?_ _ | refine blk_drew ?_ | refine blk_alloc ?_ _)); exact BK258.out) hb); have n1_ := Aside0.mk (blk_below (g := gb259) (o := .cells #[.string a1_0, .string a1_1, .bool a1_2] 31 (0, 0)) (by (with_reducible repeat (first | refine blk_drewN ?_ _ | refine blk_drew ?_ | refine blk_alloc ?_ _)); refine blk_far ?_ NB259_272.out _; (with_reducible repeat (first | refine blk_drewN ?_ _ | refine blk_drew ?_ | refine blk_alloc ?_ _)); refine blk_far ?_ NB259_272.out _; (with_reducible repeat (first | refine blk_drewN ?_ _ | refine blk_drew ?_ | refine blk_alloc ?_ _)); refine blk_far ?_ NB259_272.out _; (with_reducible repeat (first | refine blk_drewN ?_ _ | refine blk_drew ?_ | refine blk_alloc ?_ _)); exact BK259.out) hb); have n2_ := Aside0.mk (blk_below (g := gb260) (o := .cells #[.string a2_0, .string a2_1, .bool a2_2] 31 (0, 0)) (by (with_reducible repeat (first | refine blk_drewN ?_ _ | refine blk_drew ?_ | refine blk_alloc ?_ _)); refine blk_far ?_ NB260_272.out _; (with_reducible repeat (first | refine blk_drewN ?_ _ | refine blk_drew ?_ | refine blk_alloc ?_ _)); refine blk_far ?_ NB260_272.out _; (with_reducible repeat (first | refine blk_drewN ?_ _ | refine blk_drew ?_ | refine blk_alloc ?_ _)); refine blk_far ?_ NB260_272.out _; (with_reducible repeat (first | refine blk_drewN ?_ _ | refine blk_drew ?_ | refine blk_alloc ?_ _)); exact BK260.out) hb); have n3_ := Aside0.mk (blk_below (g := gb267) (o := .cells #[.string t263, .string t264, .bool t265] 31 (0, 0)) (by (with_reducible repeat (first | refine blk_drewN ?_ _ | refine blk_drew ?_ | refine blk_alloc ?_ _)); refine blk_far ?_ NB267_272.out _; (with_reducible repeat (first | refine blk_drewN ?_ _ | refine blk_drew ?_ | refine blk_alloc ?_ _)); refine blk_far ?_ NB267_272.out _; (with_reducible repeat (first | refine blk_drewN ?_ _ | refine blk_drew ?_ | refine blk_alloc ?_ _)); refine blk_far ?_ NB267_272.out _; (with_reducible repeat (first | refine blk_drewN ?_ _ | refine blk_drew ?_ | refine blk_alloc ?_ _)); exact BK267.out) hb); have n4_ := Aside0.mk (blk_below (g := gb272) (o := .cells #[.string t268, .string t269, .bool t270] 31 (0, 0)) (by (with_reducible repeat (first | refine blk_drewN ?_ _ | refine blk_drew ?_ | refine blk_alloc ?_ _)); refine blk_put (cs := #[.string t268, .string t269, .bool false]) ?_ 2 _ rfl; (with_reducible repeat (first | refine blk_drewN ?_ _ | refine blk_drew ?_ | refine blk_alloc ?_ _)); refine blk_put (cs := #[.string t268, .string (⟨#[]⟩ : ByteArray), .bool false]) ?_ 1 _ rfl; (with_reducible repeat (first | refine blk_drewN ?_ _ | refine blk_drew ?_ | refine blk_alloc ?_ _)); refine blk_put (cs := #[.string (⟨#[]⟩ : ByteArray), .string (⟨#[]⟩ : ByteArray), .bool false]) ?_ 0 _ rfl; (with_reducible repeat (first | refine blk_drewN ?_ _ | refine blk_drew ?_ | refine blk_alloc ?_ _)); exact BK272.out) hb); have n5_ := Aside0.mk (below_step (by repeat (first | (with_reducible first | exact HB.out | apply below_alloc | apply pw_below_drewN | apply below_drew1 | refine below_set ?_ GE258.out | refine below_set ?_ GE259.out | refine below_set ?_ GE260.out | refine below_set ?_ GE267.out | refine below_set ?_ GE272.out) | exact HB.out)) hb); clear BK258; clear BK259; clear BK260; clear BK267; clear BK272; clear HB; have BK258 := n0_; have BK259 := n1_; have BK260 := n2_; have BK267 := n3_; have BK272 := n4_; have HB := n5_; clear n0_ n1_ n2_ n3_ n4_ n5_; (try clear hb); (try clear hb2); (try clear hk); (try clear hi); have hcz132_0 : w131.cell? ⟨gb267, 0, none⟩ = some (.string t263) := (blk_cell BK267.out 0).trans rfl; have hcz132_1 : w131.cell? ⟨gb267, 1, none⟩ = some (.string t264) := (blk_cell BK267.out 1).trans rfl; have hcz132_2 : w131.cell? ⟨gb267, 2, none⟩ = some (.bool t265) := (blk_cell BK267.out 2).trans rfl; have hfz132_0 := blk_frozen BK267.out 0; have hfz132_1 := blk_frozen BK267.out 1; have hfz132_2 := blk_frozen BK267.out 2; have hnb133 := NB259_260.out; have hnc133 := NB260_259.out; have hcz134_0 : w131.cell? ⟨gb259, 0, none⟩ = some (.string a1_0) := (blk_cell BK259.out 0).trans rfl; have hcz134_1 : w131.cell? ⟨gb259, 1, none⟩ = some (.string a1_1) := (blk_cell BK259.out 1).trans rfl; have hcz134_2 : w131.cell? ⟨gb259, 2, none⟩ = some (.bool a1_2) := (blk_cell BK259.out 2).trans rfl; have hfz134_0 := blk_frozen BK259.out 0; have hfz134_1 := blk_frozen BK259.out 1; have hfz134_2 := blk_frozen BK259.out 2) | (go_at_call 20; (with_reducible refine (span_Within.calls kj3 t263 t264 t265 a1_0 a1_1 a1_2 false _ A74.out).mono ?_); rintro e w135 ⟨rfl, hb⟩; have n0_ := Aside0.mk (blk_below (g := gb258) (o := .cells #[.string a0_0, .string a0_1, .bool a0_2] 31 (0, 0)) (by (with_reducible repeat (first | refine blk_drewN ?_ _ | refine blk_drew ?_ | refine blk_alloc ?_ _)); exact BK258.out) hb); have n1_ := Aside0.mk (blk_below (g := gb259) (o := .cells #[.string a1_0, .string a1_1, .bool a1_2] 31 (0, 0)) (by (with_reducible repeat (first | refine blk_drewN ?_ _ | refine blk_drew ?_ | refine blk_alloc ?_ _)); exact BK259.out) hb); have n2_ := Aside0.mk (blk_below (g := gb260) (o := .cells #[.string a2_0, .string a2_1, .bool a2_2] 31 (0, 0)) (by (with_reducible repeat (first | refine blk_drewN ?_ _ | refine blk_drew ?_ | refine blk_alloc ?_ _)); exact BK260.out) hb); have n3_ := Aside0.mk (blk_below (g := gb267) (o := .cells #[.string t263, .string t264, .bool t265] 31 (0, 0)) (by (with_reducible repeat (first | refine blk_drewN ?_ _ | refine blk_drew ?_ | refine blk_alloc ?_ _)); exact BK267.out) hb); have n4_ := Aside0.mk (blk_below (g := gb272) (o := .cells #[.string t268, .string t269, .bool t270] 31 (0, 0)) (by (with_reducible repeat (first | refine blk_drewN ?_ _ | refine blk_drew ?_ | refine blk_alloc ?_ _)); exact BK272.out) hb); have n5_ := Aside0.mk (below_step (by repeat (first | (with_reducible first | exact HB.out | apply below_alloc | apply pw_below_drewN | apply below_drew1 | refine below_set ?_ GE258.out | refine below_set ?_ GE259.out | refine below_set ?_ GE260.out | refine below_set ?_ GE267.out | refine below_set ?_ GE272.out) | exact HB.out)) hb); clear BK258; clear BK259; clear BK260; clear BK267; clear BK272; clear HB; have BK258 := n0_; have BK259 := n1_; have BK260 := n2_; have BK267 := n3_; have BK272 := n4_; have HB := n5_; clear n0_ n1_ n2_ n3_ n4_ n5_; (try clear hb); (try clear hb2); (try clear hk); (try clear hi)))
                    go_meet
                    case rel => exact ⟨_, (true), (by first | rfl | (simp; done) | (simp [*]; done)), H', ⟨by have := HJ3.out; first | omega | exact Nat.le_refl _⟩, ⟨by (with_reducible repeat (first | refine blk_drewN ?_ _ | refine blk_drew ?_ | refine blk_alloc ?_ _)); exact BK258.out⟩, ⟨by (with_reducible repeat (first | refine blk_drewN ?_ _ | refine blk_drew ?_ | refine blk_alloc ?_ _)); exact BK259.out⟩, ⟨by (with_reducible repeat (first | refine blk_drewN ?_ _ | refine blk_drew ?_ | refine blk_alloc ?_ _)); exact BK260.out⟩, ⟨by (with_reducible repeat (first | refine blk_drewN ?_ _ | refine blk_drew ?_ | refine blk_alloc ?_ _)); exact BK267.out⟩, ⟨by (with_reducible repeat (first | refine blk_drewN ?_ _ | refine blk_drew ?_ | refine blk_alloc ?_ _)); exact BK272.out⟩, ⟨by repeat (first | (with_reducible first | exact HB.out | apply below_alloc | apply pw_below_drewN | apply below_drew1 | refine below_set ?_ GE258.out | refine below_set ?_ GE259.out | refine below_set ?_ GE260.out | refine below_set ?_ GE267.out | refine below_set ?_ GE272.out) | exact HB.out)⟩⟩
                · replace c73 := Bool.eq_false_iff.mpr c73
                  subst c73
                  have H1 : (lockkeeperlaw03_SpanOrder.j1 kj3 true true a0_0 a0_1 a0_2 a1_0 a1_1 a1_2 a2_0 a2_1 a2_2 t263 t264 t265) = some r := by rw [if_neg (show ¬ (false = true) by decide)] at H; exact H
                  clear H
                  have H := H1
                  clear H1
                  have H' := Aside0.mk H
                  clear H
                  have hnb136 := NB267_258.out
                  have hnc136 := NB258_267.out
                  have hnb137 := NB267_259.out
                  have hnc137 := NB259_267.out
                  have hnb138 := NB267_260.out
                  have hnc138 := NB260_267.out
                  have hnb139 := NB267_272.out
                  have hnc139 := NB272_267.out
                  have hcz140_0 : w45.cell? ⟨gb267, 0, none⟩ = some (.string t263) := (blk_cell BK267.out 0).trans rfl
                  have hcz140_1 : w45.cell? ⟨gb267, 1, none⟩ = some (.string t264) := (blk_cell BK267.out 1).trans rfl
                  have hcz140_2 : w45.cell? ⟨gb267, 2, none⟩ = some (.bool t265) := (blk_cell BK267.out 2).trans rfl
                  have hfz140_0 := blk_frozen BK267.out 0
                  have hfz140_1 := blk_frozen BK267.out 1
                  have hfz140_2 := blk_frozen BK267.out 2
                  have hnb141 := NB272_258.out
                  have hnc141 := NB258_272.out
                  have hnb142 := NB272_259.out
                  have hnc142 := NB259_272.out
                  have hnb143 := NB272_260.out
                  have hnc143 := NB260_272.out
                  have hcz144_0 : w45.cell? ⟨gb272, 0, none⟩ = some (.string (⟨#[]⟩ : ByteArray)) := (blk_cell BK272.out 0).trans rfl
                  have hcz144_1 : w45.cell? ⟨gb272, 1, none⟩ = some (.string (⟨#[]⟩ : ByteArray)) := (blk_cell BK272.out 1).trans rfl
                  have hcz144_2 : w45.cell? ⟨gb272, 2, none⟩ = some (.bool false) := (blk_cell BK272.out 2).trans rfl
                  have hfz144_0 := blk_frozen BK272.out 0
                  have hfz144_1 := blk_frozen BK272.out 1
                  have hfz144_2 := blk_frozen BK272.out 2
                  have hnb145 := NB258_259.out
                  have hnc145 := NB259_258.out
                  have hnb146 := NB258_260.out
                  have hnc146 := NB260_258.out
                  have hcz147_0 : w45.cell? ⟨gb258, 0, none⟩ = some (.string a0_0) := (blk_cell BK258.out 0).trans rfl
                  have hcz147_1 : w45.cell? ⟨gb258, 1, none⟩ = some (.string a0_1) := (blk_cell BK258.out 1).trans rfl
                  have hcz147_2 : w45.cell? ⟨gb258, 2, none⟩ = some (.bool a0_2) := (blk_cell BK258.out 2).trans rfl
                  have hfz147_0 := blk_frozen BK258.out 0
                  have hfz147_1 := blk_frozen BK258.out 1
                  have hfz147_2 := blk_frozen BK258.out 2
                  go_wp2_with (first | (go_at_call 20; (with_reducible refine (span_Within.calls kj3 t263 t264 t265 a0_0 a0_1 a0_2 false _ A72.out).mono ?_); rintro e w148 ⟨rfl, hb⟩; have n0_ := Aside0.mk (blk_below (g := gb258) (o := .cells #[.string a0_0, .string a0_1, .bool a0_2] 31 (0, 0)) (by (with_reducible repeat (first | refine blk_drewN ?_ _ | refine blk_drew ?_ | refine blk_alloc ?_ _)); refine blk_far ?_ NB258_272.out _; (with_reducible repeat (first | refine blk_drewN ?_ _ | refine blk_drew ?_ | refine blk_alloc ?_ _)); refine blk_far ?_ NB258_272.out _; (with_reducible repeat (first | refine blk_drewN ?_ _ | refine blk_drew ?_ | refine blk_alloc ?_ _)); refine blk_far ?_ NB258_272.out _; (with_reducible repeat (first | refine blk_drewN ?_ _ | refine blk_drew ?_ | refine blk_alloc ?_ _)); exact BK258.out) hb); have n1_ := Aside0.mk (blk_below (g := gb259) (o := .cells #[.string a1_0, .string a1_1, .bool a1_2] 31 (0, 0)) (by (with_reducible repeat (first | refine blk_drewN ?_ _ | refine blk_drew ?_ | refine blk_alloc ?_ _)); refine blk_far ?_ NB259_272.out _; (with_reducible repeat (first | refine blk_drewN ?_ _ | refine blk_drew ?_ | refine blk_alloc ?_ _)); refine blk_far ?_ NB259_272.out _; (with_reducible repeat (first | refine blk_drewN ?_ _ | refine blk_drew ?_ | refine blk_alloc ?_ _)); refine blk_far ?_ NB259_272.out _; (with_reducible repeat (first | refine blk_drewN ?_ _ | refine blk_drew ?_ | refine blk_alloc ?_ _)); exact BK259.out) hb); have n2_ := Aside0.mk (blk_below (g := gb260) (o := .cells #[.string a2_0, .string a2_1, .bool a2_2] 31 (0, 0)) (by (with_reducible repeat (first | refine blk_drewN ?_ _ | refine blk_drew ?_ | refine blk_alloc ?_ _)); refine blk_far ?_ NB260_272.out _; (with_reducible repeat (first | refine blk_drewN ?_ _ | refine blk_drew ?_ | refine blk_alloc ?_ _)); refine blk_far ?_ NB260_272.out _; (with_reducible repeat (first | refine blk_drewN ?_ _ | refine blk_drew ?_ | refine blk_alloc ?_ _)); refine blk_far ?_ NB260_272.out _; (with_reducible repeat (first | refine blk_drewN ?_ _ | refine blk_drew ?_ | refine blk_alloc ?_ _)); exact BK260.out) hb); have n3_ := Aside0.mk (blk_below (g := gb267) (o := .cells #[.string t263, .string t264, .bool t265] 31 (0, 0)) (by (with_reducible repeat (first | refine blk_drewN ?_ _ | refine blk_drew ?_ | refine blk_alloc ?_ _)); refine blk_far ?_ NB267_272.out _; (with_reducible repeat (first | refine blk_drewN ?_ _ | refine blk_drew ?_ | refine blk_alloc ?_ _)); refine blk_far ?_ NB267_272.out _; (with_reducible repeat (first | refine blk_drewN ?_ _ | refine blk_drew ?_ | refine blk_alloc ?_ _)); refine blk_far ?_ NB267_272.out _; (with_reducible repeat (first | refine blk_drewN ?_ _ | refine blk_drew ?_ | refine blk_alloc ?_ _)); exact BK267.out) hb); have n4_ := Aside0.mk (blk_below (g := gb272) (o := .cells #[.string t268, .string t269, .bool t270] 31 (0, 0)) (by (with_reducible repeat (first | refine blk_drewN ?_ _ | refine blk_drew ?_ | refine blk_alloc ?_ _)); refine blk_put (cs := #[.string t268, .string t269, .bool false]) ?_ 2 _ rfl; (with_reducible repeat (first | refine blk_drewN ?_ _ | refine blk_drew ?_ | refine blk_alloc ?_ _)); refine blk_put (cs := #[.string t268, .string (⟨#[]⟩ : ByteArray), .bool false]) ?_ 1 _ rfl; (with_reducible repeat (first | refine blk_drewN ?_ _ | refine blk_drew ?_ | refine blk_alloc ?_ _)); refine blk_put (cs := #[.string (⟨#[]⟩ : ByteArray), .string (⟨#[]⟩ : ByteArray), .bool false]) ?_ 0 _ rfl; (with_reducible repeat (first | refine blk_drewN ?_ _ | refine blk_drew ?_ | refine blk_alloc ?_ _)); exact BK272.out) hb); have n5_ := Aside0.mk (below_step (by repeat (first | (with_reducible first | exact HB.out | apply below_alloc | apply pw_below_drewN | apply below_drew1 | refine below_set ?_ GE258.out | refine below_set ?_ GE259.out | refine below_set ?_ GE260.out | refine below_set ?_ GE267.out | refine below_set ?_ GE272.out) | exact HB.out)) hb); clear BK258; clear BK259; clear BK260; clear BK267; clear BK272; clear HB; have BK258 := n0_; have BK259 := n1_; have BK260 := n2_; have BK267 := n3_; have BK272 := n4_; have HB := n5_; clear n0_ n1_ n2_ n3_ n4_ n5_; (try clear hb); (try clear hb2); (try clear hk); (try clear hi)))
                  go_meet
                  case rel => exact ⟨_, (true), (by first | rfl | (simp; done) | (simp [*]; done)), H', ⟨by have := HJ3.out; first | omega | exact Nat.le_refl _⟩, ⟨by (with_reducible repeat (first | refine blk_drewN ?_ _ | refine blk_drew ?_ | refine blk_alloc ?_ _)); exact BK258.out⟩, ⟨by (with_reducible repeat (first | refine blk_drewN ?_ _ | refine blk_drew ?_ | refine blk_alloc ?_ _)); exact BK259.out⟩, ⟨by (with_reducible repeat (first | refine blk_drewN ?_ _ | refine blk_drew ?_ | refine blk_alloc ?_ _)); exact BK260.out⟩, ⟨by (with_reducible repeat (first | refine blk_drewN ?_ _ | refine blk_drew ?_ | refine blk_alloc ?_ _)); exact BK267.out⟩, ⟨by (with_reducible repeat (first | refine blk_drewN ?_ _ | refine blk_drew ?_ | refine blk_alloc ?_ _)); exact BK272.out⟩, ⟨by repeat (first | (with_reducible first | exact HB.out | apply below_alloc | apply pw_below_drewN | apply below_drew1 | refine below_set ?_ GE258.out | refine below_set ?_ GE259.out | refine below_set ?_ GE260.out | refine below_set ?_ GE267.out | refine below_set ?_ GE272.out) | exact HB.out)⟩⟩
              · replace c71 := Bool.eq_false_iff.mpr c71
                subst c71
                have H1 : ((span_Right.f kj3 a0_0 a0_1 a0_2).bind fun t277 => (if t277 = true then ((span_Within.f kj3 a0_0 a0_1 a0_2 a0_0 a0_1 a0_2).bind fun t278 => (lockkeeperlaw03_SpanOrder.j1 kj3 false (!t278) a0_0 a0_1 a0_2 a1_0 a1_1 a1_2 a2_0 a2_1 a2_2 t263 t264 t265)) else (lockkeeperlaw03_SpanOrder.j1 kj3 false false a0_0 a0_1 a0_2 a1_0 a1_1 a1_2 a2_0 a2_1 a2_2 t263 t264 t265))) = some r := by rw [if_neg (show ¬ (false = true) by decide)] at H; exact H
                clear H
                have H := H1
                clear H1
                replace H := Option.bind_eq_some_iff.mp H
                obtain ⟨t277, A1490, H⟩ := H
                replace H : (if t277 = true then ((span_Within.f kj3 a0_0 a0_1 a0_2 a0_0 a0_1 a0_2).bind fun t278 => (lockkeeperlaw03_SpanOrder.j1 kj3 false (!t278) a0_0 a0_1 a0_2 a1_0 a1_1 a1_2 a2_0 a2_1 a2_2 t263 t264 t265)) else (lockkeeperlaw03_SpanOrder.j1 kj3 false false a0_0 a0_1 a0_2 a1_0 a1_1 a1_2 a2_0 a2_1 a2_2 t263 t264 t265)) = some r := H
                have A149 := Aside0.mk A1490
                clear A1490
                by_cases c150 : t277 = true
                · subst c150
                  have H1 : ((span_Within.f kj3 a0_0 a0_1 a0_2 a0_0 a0_1 a0_2).bind fun t278 => (lockkeeperlaw03_SpanOrder.j1 kj3 false (!t278) a0_0 a0_1 a0_2 a1_0 a1_1 a1_2 a2_0 a2_1 a2_2 t263 t264 t265)) = some r := by rw [if_pos rfl] at H; exact H
                  clear H
                  have H := H1
                  clear H1
                  replace H := Option.bind_eq_some_iff.mp H
                  obtain ⟨t278, A1510, H⟩ := H
                  replace H : (lockkeeperlaw03_SpanOrder.j1 kj3 false (!t278) a0_0 a0_1 a0_2 a1_0 a1_1 a1_2 a2_0 a2_1 a2_2 t263 t264 t265) = some r := H
                  have A151 := Aside0.mk A1510
                  clear A1510
                  have H' := Aside0.mk H
                  clear H
                  have hnb152 := NB267_258.out
                  have hnc152 := NB258_267.out
                  have hnb153 := NB267_259.out
                  have hnc153 := NB259_267.out
                  have hnb154 := NB267_260.out
                  have hnc154 := NB260_267.out
                  have hnb155 := NB267_272.out
                  have hnc155 := NB272_267.out
                  have hcz156_0 : w45.cell? ⟨gb267, 0, none⟩ = some (.string t263) := (blk_cell BK267.out 0).trans rfl
                  have hcz156_1 : w45.cell? ⟨gb267, 1, none⟩ = some (.string t264) := (blk_cell BK267.out 1).trans rfl
                  have hcz156_2 : w45.cell? ⟨gb267, 2, none⟩ = some (.bool t265) := (blk_cell BK267.out 2).trans rfl
                  have hfz156_0 := blk_frozen BK267.out 0
                  have hfz156_1 := blk_frozen BK267.out 1
                  have hfz156_2 := blk_frozen BK267.out 2
                  have hnb157 := NB272_258.out
                  have hnc157 := NB258_272.out
                  have hnb158 := NB272_259.out
                  have hnc158 := NB259_272.out
                  have hnb159 := NB272_260.out
                  have hnc159 := NB260_272.out
                  have hcz160_0 : w45.cell? ⟨gb272, 0, none⟩ = some (.string (⟨#[]⟩ : ByteArray)) := (blk_cell BK272.out 0).trans rfl
                  have hcz160_1 : w45.cell? ⟨gb272, 1, none⟩ = some (.string (⟨#[]⟩ : ByteArray)) := (blk_cell BK272.out 1).trans rfl
                  have hcz160_2 : w45.cell? ⟨gb272, 2, none⟩ = some (.bool false) := (blk_cell BK272.out 2).trans rfl
                  have hfz160_0 := blk_frozen BK272.out 0
                  have hfz160_1 := blk_frozen BK272.out 1
                  have hfz160_2 := blk_frozen BK272.out 2
                  have hnb161 := NB258_259.out
                  have hnc161 := NB259_258.out
                  have hnb162 := NB258_260.out
                  have hnc162 := NB260_258.out
                  have hcz163_0 : w45.cell? ⟨gb258, 0, none⟩ = some (.string a0_0) := (blk_cell BK258.out 0).trans rfl
                  have hcz163_1 : w45.cell? ⟨gb258, 1, none⟩ = some (.string a0_1) := (blk_cell BK258.out 1).trans rfl
                  have hcz163_2 : w45.cell? ⟨gb258, 2, none⟩ = some (.bool a0_2) := (blk_cell BK258.out 2).trans rfl
                  have hfz163_0 := blk_frozen BK258.out 0
                  have hfz163_1 := blk_frozen BK258.out 1
                  have hfz163_2 := blk_frozen BK258.out 2
                  go_wp2_with (first | (go_at_call 17; (with_reducible refine (span_Right.calls kj3 a0_0 a0_1 a0_2 true _ A149.out).mono ?_); rintro e w164 ⟨rfl, hb⟩; have n0_ := Aside0.mk (blk_below (g := gb258) (o := .cells #[.string a0_0, .string a0_1, .bool a0_2] 31 (0, 0)) (by (with_reducible repeat (first | refine blk_drewN ?_ _ | refine blk_drew ?_ | refine blk_alloc ?_ _)); refine blk_far ?_ NB258_272.out _; (with_reducible repeat (first | refine blk_drewN ?_ _ | refine blk_drew ?_ | refine blk_alloc ?_ _)); refine blk_far ?_ NB258_272.out _; (with_reducible repeat (first | refine blk_drewN ?_ _ | refine blk_drew ?_ | refine blk_alloc ?_ _)); refine blk_far ?_ NB258_272.out _; (with_reducible repeat (first | refine blk_drewN ?_ _ | refine blk_drew ?_ | refine blk_alloc ?_ _)); exact BK258.out) hb); have n1_ := Aside0.mk (blk_below (g := gb259) (o := .cells #[.string a1_0, .string a1_1, .bool a1_2] 31 (0, 0)) (by (with_reducible repeat (first | refine blk_drewN ?_ _ | refine blk_drew ?_ | refine blk_alloc ?_ _)); refine blk_far ?_ NB259_272.out _; (with_reducible repeat (first | refine blk_drewN ?_ _ | refine blk_drew ?_ | refine blk_alloc ?_ _)); refine blk_far ?_ NB259_272.out _; (with_reducible repeat (first | refine blk_drewN ?_ _ | refine blk_drew ?_ | refine blk_alloc ?_ _)); refine blk_far ?_ NB259_272.out _; (with_reducible repeat (first | refine blk_drewN ?_ _ | refine blk_drew ?_ | refine blk_alloc ?_ _)); exact BK259.out) hb); have n2_ := Aside0.mk (blk_below (g := gb260) (o := .cells #[.string a2_0, .string a2_1, .bool a2_2] 31 (0, 0)) (by (with_reducible repeat (first | refine blk_drewN ?_ _ | refine blk_drew ?_ | refine blk_alloc ?_ _)); refine blk_far ?_ NB260_272.out _; (with_reducible repeat (first | refine blk_drewN ?_ _ | refine blk_drew ?_ | refine blk_alloc ?_ _)); refine blk_far ?_ NB260_272.out _; (with_reducible repeat (first | refine blk_drewN ?_ _ | refine blk_drew ?_ | refine blk_alloc ?_ _)); refine blk_far ?_ NB260_272.out _; (with_reducible repeat (first | refine blk_drewN ?_ _ | refine blk_drew ?_ | refine blk_alloc ?_ _)); exact BK260.out) hb); have n3_ := Aside0.mk (blk_below (g := gb267) (o := .cells #[.string t263, .string t264, .bool t265] 31 (0, 0)) (by (with_reducible repeat (first | refine blk_drewN ?_ _ | refine blk_drew ?_ | refine blk_alloc ?_ _)); refine blk_far ?_ NB267_272.out _; (with_reducible repeat (first | refine blk_drewN ?_ _ | refine blk_drew ?_ | refine blk_alloc ?_ _)); refine blk_far ?_ NB267_272.out _; (with_reducible repeat (first | refine blk_drewN ?_ _ | refine blk_drew ?_ | refine blk_alloc ?_ _)); refine blk_far ?_ NB267_272.out _; (with_reducible repeat (first | refine blk_drewN ?_ _ | refine blk_drew ?_ | refine blk_alloc ?_ _)); exact BK267.out) hb); have n4_ := Aside0.mk (blk_below (g := gb272) (o := .cells #[.string t268, .string t269, .bool t270] 31 (0, 0)) (by (with_reducible repeat (first | refine blk_drewN ?_ _ | refine blk_drew ?_ | refine blk_alloc ?_ _)); refine blk_put (cs := #[.string t268, .string t269, .bool false]) ?_ 2 _ rfl; (with_reducible repeat (first | refine blk_drewN ?_ _ | refine blk_drew ?_ | refine blk_alloc ?_ _)); refine blk_put (cs := #[.string t268, .string (⟨#[]⟩ : ByteArray), .bool false]) ?_ 1 _ rfl; (with_reducible repeat (first | refine blk_drewN ?_ _ | refine blk_drew ?_ | refine blk_alloc ?_ _)); refine blk_put (cs := #[.string (⟨#[]⟩ : ByteArray), .string (⟨#[]⟩ : ByteArray), .bool false]) ?_ 0 _ rfl; (with_reducible repeat (first | refine blk_drewN ?_ _ | refine blk_drew ?_ | refine blk_alloc ?_ _)); exact BK272.out) hb); have n5_ := Aside0.mk (below_step (by repeat (first | (with_reducible first | exact HB.out | apply below_alloc | apply pw_below_drewN | apply below_drew1 | refine below_set ?_ GE258.out | refine below_set ?_ GE259.out | refine below_set ?_ GE260.out | refine below_set ?_ GE267.out | refine below_set ?_ GE272.out) | exact HB.out)) hb); clear BK258; clear BK259; clear BK260; clear BK267; clear BK272; clear HB; have BK258 := n0_; have BK259 := n1_; have BK260 := n2_; have BK267 := n3_; have BK272 := n4_; have HB := n5_; clear n0_ n1_ n2_ n3_ n4_ n5_; (try clear hb); (try clear hb2); (try clear hk); (try clear hi); have hcz165_0 : w164.cell? ⟨gb258, 0, none⟩ = some (.string a0_0) := (blk_cell BK258.out 0).trans rfl; have hcz165_1 : w164.cell? ⟨gb258, 1, none⟩ = some (.string a0_1) := (blk_cell BK258.out 1).trans rfl; have hcz165_2 : w164.cell? ⟨gb258, 2, none⟩ = some (.bool a0_2) := (blk_cell BK258.out 2).trans rfl; have hfz165_0 := blk_frozen BK258.out 0; have hfz165_1 := blk_frozen BK258.out 1; have hfz165_2 := blk_frozen BK258.out 2) | (go_at_call 20; (with_reducible refine (span_Within.calls kj3 a0_0 a0_1 a0_2 a0_0 a0_1 a0_2 t278 _ A151.out).mono ?_); rintro e w166 ⟨rfl, hb⟩; have n0_ := Aside0.mk (blk_below (g := gb258) (o := .cells #[.string a0_0, .string a0_1, .bool a0_2] 31 (0, 0)) (by (with_reducible repeat (first | refine blk_drewN ?_ _ | refine blk_drew ?_ | refine blk_alloc ?_ _)); exact BK258.out) hb); have n1_ := Aside0.mk (blk_below (g := gb259) (o := .cells #[.string a1_0, .string a1_1, .bool a1_2] 31 (0, 0)) (by (with_reducible repeat (first | refine blk_drewN ?_ _ | refine blk_drew ?_ | refine blk_alloc ?_ _)); exact BK259.out) hb); have n2_ := Aside0.mk (blk_below (g := gb260) (o := .cells #[.string a2_0, .string a2_1, .bool a2_2] 31 (0, 0)) (by (with_reducible repeat (first | refine blk_drewN ?_ _ | refine blk_drew ?_ | refine blk_alloc ?_ _)); exact BK260.out) hb); have n3_ := Aside0.mk (blk_below (g := gb267) (o := .cells #[.string t263, .string t264, .bool t265] 31 (0, 0)) (by (with_reducible repeat (first | refine blk_drewN ?_ _ | refine blk_drew ?_ | refine blk_alloc ?_ _)); exact BK267.out) hb); have n4_ := Aside0.mk (blk_below (g := gb272) (o := .cells #[.string t268, .string t269, .bool t270] 31 (0, 0)) (by (with_reducible repeat (first | refine blk_drewN ?_ _ | refine blk_drew ?_ | refine blk_alloc ?_ _)); exact BK272.out) hb); have n5_ := Aside0.mk (below_step (by repeat (first | (with_reducible first | exact HB.out | apply below_alloc | apply pw_below_drewN | apply below_drew1 | refine below_set ?_ GE258.out | refine below_set ?_ GE259.out | refine below_set ?_ GE260.out | refine below_set ?_ GE267.out | refine below_set ?_ GE272.out) | exact HB.out)) hb); clear BK258; clear BK259; clear BK260; clear BK267; clear BK272; clear HB; have BK258 := n0_; have BK259 := n1_; have BK260 := n2_; have BK267 := n3_; have BK272 := n4_; have HB := n5_; clear n0_ n1_ n2_ n3_ n4_ n5_; (try clear hb); (try clear hb2); (try clear hk); (try clear hi)))
                  go_meet
                  case rel => exact ⟨_, (!t278), (by first | rfl | (simp; done) | (simp [*]; done)), H', ⟨by have := HJ3.out; first | omega | exact Nat.le_refl _⟩, ⟨by (with_reducible repeat (first | refine blk_drewN ?_ _ | refine blk_drew ?_ | refine blk_alloc ?_ _)); exact BK258.out⟩, ⟨by (with_reducible repeat (first | refine blk_drewN ?_ _ | refine blk_drew ?_ | refine blk_alloc ?_ _)); exact BK259.out⟩, ⟨by (with_reducible repeat (first | refine blk_drewN ?_ _ | refine blk_drew ?_ | refine blk_alloc ?_ _)); exact BK260.out⟩, ⟨by (with_reducible repeat (first | refine blk_drewN ?_ _ | refine blk_drew ?_ | refine blk_alloc ?_ _)); exact BK267.out⟩, ⟨by (with_reducible repeat (first | refine blk_drewN ?_ _ | refine blk_drew ?_ | refine blk_alloc ?_ _)); exact BK272.out⟩, ⟨by repeat (first | (with_reducible first | exact HB.out | apply below_alloc | apply pw_below_drewN | apply below_drew1 | refine below_set ?_ GE258.out | refine below_set ?_ GE259.out | refine below_set ?_ GE260.out | refine below_set ?_ GE267.out | refine below_set ?_ GE272.out) | exact HB.out)⟩⟩
                · replace c150 := Bool.eq_false_iff.mpr c150
                  subst c150
                  have H1 : (lockkeeperlaw03_SpanOrder.j1 kj3 false false a0_0 a0_1 a0_2 a1_0 a1_1 a1_2 a2_0 a2_1 a2_2 t263 t264 t265) = some r := by rw [if_neg (show ¬ (false = true) by decide)] at H; exact H
                  clear H
                  have H := H1
                  clear H1
                  have H' := Aside0.mk H
                  clear H
                  have hnb167 := NB267_258.out
                  have hnc167 := NB258_267.out
                  have hnb168 := NB267_259.out
                  have hnc168 := NB259_267.out
                  have hnb169 := NB267_260.out
                  have hnc169 := NB260_267.out
                  have hnb170 := NB267_272.out
                  have hnc170 := NB272_267.out
                  have hcz171_0 : w45.cell? ⟨gb267, 0, none⟩ = some (.string t263) := (blk_cell BK267.out 0).trans rfl
                  have hcz171_1 : w45.cell? ⟨gb267, 1, none⟩ = some (.string t264) := (blk_cell BK267.out 1).trans rfl
                  have hcz171_2 : w45.cell? ⟨gb267, 2, none⟩ = some (.bool t265) := (blk_cell BK267.out 2).trans rfl
                  have hfz171_0 := blk_frozen BK267.out 0
                  have hfz171_1 := blk_frozen BK267.out 1
                  have hfz171_2 := blk_frozen BK267.out 2
                  have hnb172 := NB272_258.out
                  have hnc172 := NB258_272.out
                  have hnb173 := NB272_259.out
                  have hnc173 := NB259_272.out
                  have hnb174 := NB272_260.out
                  have hnc174 := NB260_272.out
                  have hcz175_0 : w45.cell? ⟨gb272, 0, none⟩ = some (.string (⟨#[]⟩ : ByteArray)) := (blk_cell BK272.out 0).trans rfl
                  have hcz175_1 : w45.cell? ⟨gb272, 1, none⟩ = some (.string (⟨#[]⟩ : ByteArray)) := (blk_cell BK272.out 1).trans rfl
                  have hcz175_2 : w45.cell? ⟨gb272, 2, none⟩ = some (.bool false) := (blk_cell BK272.out 2).trans rfl
                  have hfz175_0 := blk_frozen BK272.out 0
                  have hfz175_1 := blk_frozen BK272.out 1
                  have hfz175_2 := blk_frozen BK272.out 2
                  have hnb176 := NB258_259.out
                  have hnc176 := NB259_258.out
                  have hnb177 := NB258_260.out
                  have hnc177 := NB260_258.out
                  have hcz178_0 : w45.cell? ⟨gb258, 0, none⟩ = some (.string a0_0) := (blk_cell BK258.out 0).trans rfl
                  have hcz178_1 : w45.cell? ⟨gb258, 1, none⟩ = some (.string a0_1) := (blk_cell BK258.out 1).trans rfl
                  have hcz178_2 : w45.cell? ⟨gb258, 2, none⟩ = some (.bool a0_2) := (blk_cell BK258.out 2).trans rfl
                  have hfz178_0 := blk_frozen BK258.out 0
                  have hfz178_1 := blk_frozen BK258.out 1
                  have hfz178_2 := blk_frozen BK258.out 2
                  go_wp2_with (first | (go_at_call 17; (with_reducible refine (span_Right.calls kj3 a0_0 a0_1 a0_2 false _ A149.out).mono ?_); rintro e w179 ⟨rfl, hb⟩; have n0_ := Aside0.mk (blk_below (g := gb258) (o := .cells #[.string a0_0, .string a0_1, .bool a0_2] 31 (0, 0)) (by (with_reducible repeat (first | refine blk_drewN ?_ _ | refine blk_drew ?_ | refine blk_alloc ?_ _)); refine blk_far ?_ NB258_272.out _; (with_reducible repeat (first | refine blk_drewN ?_ _ | refine blk_drew ?_ | refine blk_alloc ?_ _)); refine blk_far ?_ NB258_272.out _; (with_reducible repeat (first | refine blk_drewN ?_ _ | refine blk_drew ?_ | refine blk_alloc ?_ _)); refine blk_far ?_ NB258_272.out _; (with_reducible repeat (first | refine blk_drewN ?_ _ | refine blk_drew ?_ | refine blk_alloc ?_ _)); exact BK258.out) hb); have n1_ := Aside0.mk (blk_below (g := gb259) (o := .cells #[.string a1_0, .string a1_1, .bool a1_2] 31 (0, 0)) (by (with_reducible repeat (first | refine blk_drewN ?_ _ | refine blk_drew ?_ | refine blk_alloc ?_ _)); refine blk_far ?_ NB259_272.out _; (with_reducible repeat (first | refine blk_drewN ?_ _ | refine blk_drew ?_ | refine blk_alloc ?_ _)); refine blk_far ?_ NB259_272.out _; (with_reducible repeat (first | refine blk_drewN ?_ _ | refine blk_drew ?_ | refine blk_alloc ?_ _)); refine blk_far ?_ NB259_272.out _; (with_reducible repeat (first | refine blk_drewN ?_ _ | refine blk_drew ?_ | refine blk_alloc ?_ _)); exact BK259.out) hb); have n2_ := Aside0.mk (blk_below (g := gb260) (o := .cells #[.string a2_0, .string a2_1, .bool a2_2] 31 (0, 0)) (by (with_reducible repeat (first | refine blk_drewN ?_ _ | refine blk_drew ?_ | refine blk_alloc ?_ _)); refine blk_far ?_ NB260_272.out _; (with_reducible repeat (first | refine blk_drewN ?_ _ | refine blk_drew ?_ | refine blk_alloc ?_ _)); refine blk_far ?_ NB260_272.out _; (with_reducible repeat (first | refine blk_drewN ?_ _ | refine blk_drew ?_ | refine blk_alloc ?_ _)); refine blk_far ?_ NB260_272.out _; (with_reducible repeat (first | refine blk_drewN ?_ _ | refine blk_drew ?_ | refine blk_alloc ?_ _)); exact BK260.out) hb); have n3_ := Aside0.mk (blk_below (g := gb267) (o := .cells #[.string t263, .string t264, .bool t265] 31 (0, 0)) (by (with_reducible repeat (first | refine blk_drewN ?_ _ | refine blk_drew ?_ | refine blk_alloc ?_ _)); refine blk_far ?_ NB267_272.out _; (with_reducible repeat (first | refine blk_drewN ?_ _ | refine blk_drew ?_ | refine blk_alloc ?_ _)); refine blk_far ?_ NB267_272.out _; (with_reducible repeat (first | refine blk_drewN ?_ _ | refine blk_drew ?_ | refine blk_alloc ?_ _)); refine blk_far ?_ NB267_272.out _; (with_reducible repeat (first | refine blk_drewN ?_ _ | refine blk_drew ?_ | refine blk_alloc ?_ _)); exact BK267.out) hb); have n4_ := Aside0.mk (blk_below (g := gb272) (o := .cells #[.string t268, .string t269, .bool t270] 31 (0, 0)) (by (with_reducible repeat (first | refine blk_drewN ?_ _ | refine blk_drew ?_ | refine blk_alloc ?_ _)); refine blk_put (cs := #[.string t268, .string t269, .bool false]) ?_ 2 _ rfl; (with_reducible repeat (first | refine blk_drewN ?_ _ | refine blk_drew ?_ | refine blk_alloc ?_ _)); refine blk_put (cs := #[.string t268, .string (⟨#[]⟩ : ByteArray), .bool false]) ?_ 1 _ rfl; (with_reducible repeat (first | refine blk_drewN ?_ _ | refine blk_drew ?_ | refine blk_alloc ?_ _)); refine blk_put (cs := #[.string (⟨#[]⟩ : ByteArray), .string (⟨#[]⟩ : ByteArray), .bool false]) ?_ 0 _ rfl; (with_reducible repeat (first | refine blk_drewN ?_ _ | refine blk_drew ?_ | refine blk_alloc ?_ _)); exact BK272.out) hb); have n5_ := Aside0.mk (below_step (by repeat (first | (with_reducible first | exact HB.out | apply below_alloc | apply pw_below_drewN | apply below_drew1 | refine below_set ?_ GE258.out | refine below_set ?_ GE259.out | refine below_set ?_ GE260.out | refine below_set ?_ GE267.out | refine below_set ?_ GE272.out) | exact HB.out)) hb); clear BK258; clear BK259; clear BK260; clear BK267; clear BK272; clear HB; have BK258 := n0_; have BK259 := n1_; have BK260 := n2_; have BK267 := n3_; have BK272 := n4_; have HB := n5_; clear n0_ n1_ n2_ n3_ n4_ n5_; (try clear hb); (try clear hb2); (try clear hk); (try clear hi)))
                  go_meet
                  case rel => exact ⟨_, (false), (by first | rfl | (simp; done) | (simp [*]; done)), H', ⟨by have := HJ3.out; first | omega | exact Nat.le_refl _⟩, ⟨by (with_reducible repeat (first | refine blk_drewN ?_ _ | refine blk_drew ?_ | refine blk_alloc ?_ _)); exact BK258.out⟩, ⟨by (with_reducible repeat (first | refine blk_drewN ?_ _ | refine blk_drew ?_ | refine blk_alloc ?_ _)); exact BK259.out⟩, ⟨by (with_reducible repeat (first | refine blk_drewN ?_ _ | refine blk_drew ?_ | refine blk_alloc ?_ _)); exact BK260.out⟩, ⟨by (with_reducible repeat (first | refine blk_drewN ?_ _ | refine blk_drew ?_ | refine blk_alloc ?_ _)); exact BK267.out⟩, ⟨by (with_reducible repeat (first | refine blk_drewN ?_ _ | refine blk_drew ?_ | refine blk_alloc ?_ _)); exact BK272.out⟩, ⟨by repeat (first | (with_reducible first | exact HB.out | apply below_alloc | apply pw_below_drewN | apply below_drew1 | refine below_set ?_ GE258.out | refine below_set ?_ GE259.out | refine below_set ?_ GE260.out | refine below_set ?_ GE267.out | refine below_set ?_ GE272.out) | exact HB.out)⟩⟩
        case rest =>
          clear HC30
          try clear c1
          try clear c2
          try clear p2
          try clear c3
          try clear c4
          try clear c5
          try clear c6
          try clear c7
          try clear c8
          try clear c9
          try clear c10
          try clear c11
          try clear c12
          try clear c13
          try clear c14
          try clear c15
          try clear c16
          try clear c17
          try clear c18
          try clear c20
          try clear c25
          try clear c31
          try clear c32
          try clear c34
          try clear c38
          try clear c39
          try clear c40
          try clear c46
          try clear c47
          try clear c48
          try clear c49
          try clear c51
          try clear c51b0
          try clear c52
          try clear c53
          try clear c54
          try clear c55
          try clear c57
          try clear c58
          try clear c59
          try clear c61
          try clear c61b0
          try clear c61b1
          try clear c61b2
          try clear c62
          try clear c63
          try clear c64
          try clear c65
          try clear c67
          try clear c68
          try clear c69
          try clear c71
          try clear c73
          try clear c75
          try clear c77
          try clear c79
          try clear c80
          try clear c81
          try clear c82
          try clear c84
          try clear c85
          try clear c86
          try clear c88
          try clear c89
          try clear c93
          try clear c100
          try clear c101
          try clear c102
          try clear c103
          try clear c105
          try clear c106
          try clear c107
          try clear c109
          try clear c110
          try clear c114
          try clear c119
          try clear c120
          try clear c121
          try clear c122
          try clear c124
          try clear c125
          try clear c126
          try clear c128
          try clear c129
          try clear c133
          try clear c136
          try clear c137
          try clear c138
          try clear c139
          try clear c141
          try clear c142
          try clear c143
          try clear c145
          try clear c146
          try clear c150
          try clear c152
          try clear c153
          try clear c154
          try clear c155
          try clear c157
          try clear c158
          try clear c159
          try clear c161
          try clear c162
          try clear c167
          try clear c168
          try clear c169
          try clear c170
          try clear c172
          try clear c173
          try clear c174
          try clear c176
          try clear c177
          try clear hcz104_0
          try clear hcz104_1
          try clear hcz104_2
          try clear hcz108_0
          try clear hcz108_1
          try clear hcz108_2
          try clear hcz111_0
          try clear hcz111_1
          try clear hcz111_2
          try clear hcz113_0
          try clear hcz113_1
          try clear hcz113_2
          try clear hcz115_0
          try clear hcz115_1
          try clear hcz115_2
          try clear hcz117_0
          try clear hcz117_1
          try clear hcz117_2
          try clear hcz123_0
          try clear hcz123_1
          try clear hcz123_2
          try clear hcz127_0
          try clear hcz127_1
          try clear hcz127_2
          try clear hcz12_0
          try clear hcz12_1
          try clear hcz12_2
          try clear hcz130_0
          try clear hcz130_1
          try clear hcz130_2
          try clear hcz132_0
          try clear hcz132_1
          try clear hcz132_2
          try clear hcz134_0
          try clear hcz134_1
          try clear hcz134_2
          try clear hcz140_0
          try clear hcz140_1
          try clear hcz140_2
          try clear hcz144_0
          try clear hcz144_1
          try clear hcz144_2
          try clear hcz147_0
          try clear hcz147_1
          try clear hcz147_2
          try clear hcz14_0
          try clear hcz14_1
          try clear hcz14_2
          try clear hcz156_0
          try clear hcz156_1
          try clear hcz156_2
          try clear hcz15_0
          try clear hcz15_1
          try clear hcz15_2
          try clear hcz160_0
          try clear hcz160_1
          try clear hcz160_2
          try clear hcz163_0
          try clear hcz163_1
          try clear hcz163_2
          try clear hcz165_0
          try clear hcz165_1
          try clear hcz165_2
          try clear hcz171_0
          try clear hcz171_1
          try clear hcz171_2
          try clear hcz175_0
          try clear hcz175_1
          try clear hcz175_2
          try clear hcz178_0
          try clear hcz178_1
          try clear hcz178_2
          try clear hcz19_0
          try clear hcz19_1
          try clear hcz19_2
          try clear hcz21_0
          try clear hcz21_1
          try clear hcz21_2
          try clear hcz22_0
          try clear hcz22_1
          try clear hcz22_2
          try clear hcz24_0
          try clear hcz24_1
          try clear hcz24_2
          try clear hcz33_0
          try clear hcz33_1
          try clear hcz33_2
          try clear hcz35_0
          try clear hcz35_1
          try clear hcz35_2
          try clear hcz41_0
          try clear hcz41_1
          try clear hcz41_2
          try clear hcz42_0
          try clear hcz42_1
          try clear hcz42_2
          try clear hcz43_0
          try clear hcz43_1
          try clear hcz43_2
          try clear hcz50_0
          try clear hcz50_1
          try clear hcz50_2
          try clear hcz56_0
          try clear hcz56_1
          try clear hcz56_2
          try clear hcz60_0
          try clear hcz60_1
          try clear hcz60_2
          try clear hcz66_0
          try clear hcz66_1
          try clear hcz66_2
          try clear hcz70_0
          try clear hcz70_1
          try clear hcz70_2
          try clear hcz83_0
          try clear hcz83_1
          try clear hcz83_2
          try clear hcz87_0
          try clear hcz87_1
          try clear hcz87_2
          try clear hcz90_0
          try clear hcz90_1
          try clear hcz90_2
          try clear hcz92_0
          try clear hcz92_1
          try clear hcz92_2
          try clear hcz94_0
          try clear hcz94_1
          try clear hcz94_2
          try clear hcz96_0
          try clear hcz96_1
          try clear hcz96_2
          try clear hcz98_0
          try clear hcz98_1
          try clear hcz98_2
          try clear hfz104_0
          try clear hfz104_1
          try clear hfz104_2
          try clear hfz108_0
          try clear hfz108_1
          try clear hfz108_2
          try clear hfz111_0
          try clear hfz111_1
          try clear hfz111_2
          try clear hfz113_0
          try clear hfz113_1
          try clear hfz113_2
          try clear hfz115_0
          try clear hfz115_1
          try clear hfz115_2
          try clear hfz117_0
          try clear hfz117_1
          try clear hfz117_2
          try clear hfz123_0
          try clear hfz123_1
          try clear hfz123_2
          try clear hfz127_0
          try clear hfz127_1
          try clear hfz127_2
          try clear hfz12_0
          try clear hfz12_1
          try clear hfz12_2
          try clear hfz130_0
          try clear hfz130_1
          try clear hfz130_2
          try clear hfz132_0
          try clear hfz132_1
          try clear hfz132_2
          try clear hfz134_0
          try clear hfz134_1
          try clear hfz134_2
          try clear hfz140_0
          try clear hfz140_1
          try clear hfz140_2
          try clear hfz144_0
          try clear hfz144_1
          try clear hfz144_2
          try clear hfz147_0
          try clear hfz147_1
          try clear hfz147_2
          try clear hfz14_0
          try clear hfz14_1
          try clear hfz14_2
          try clear hfz156_0
          try clear hfz156_1
          try clear hfz156_2
          try clear hfz15_0
          try clear hfz15_1
          try clear hfz15_2
          try clear hfz160_0
          try clear hfz160_1
          try clear hfz160_2
          try clear hfz163_0
          try clear hfz163_1
          try clear hfz163_2
          try clear hfz165_0
          try clear hfz165_1
          try clear hfz165_2
          try clear hfz171_0
          try clear hfz171_1
          try clear hfz171_2
          try clear hfz175_0
          try clear hfz175_1
          try clear hfz175_2
          try clear hfz178_0
          try clear hfz178_1
          try clear hfz178_2
          try clear hfz19_0
          try clear hfz19_1
          try clear hfz19_2
          try clear hfz21_0
          try clear hfz21_1
          try clear hfz21_2
          try clear hfz22_0
          try clear hfz22_1
          try clear hfz22_2
          try clear hfz24_0
          try clear hfz24_1
          try clear hfz24_2
          try clear hfz33_0
          try clear hfz33_1
          try clear hfz33_2
          try clear hfz35_0
          try clear hfz35_1
          try clear hfz35_2
          try clear hfz41_0
          try clear hfz41_1
          try clear hfz41_2
          try clear hfz42_0
          try clear hfz42_1
          try clear hfz42_2
          try clear hfz43_0
          try clear hfz43_1
          try clear hfz43_2
          try clear hfz50_0
          try clear hfz50_1
          try clear hfz50_2
          try clear hfz56_0
          try clear hfz56_1
          try clear hfz56_2
          try clear hfz60_0
          try clear hfz60_1
          try clear hfz60_2
          try clear hfz66_0
          try clear hfz66_1
          try clear hfz66_2
          try clear hfz70_0
          try clear hfz70_1
          try clear hfz70_2
          try clear hfz83_0
          try clear hfz83_1
          try clear hfz83_2
          try clear hfz87_0
          try clear hfz87_1
          try clear hfz87_2
          try clear hfz90_0
          try clear hfz90_1
          try clear hfz90_2
          try clear hfz92_0
          try clear hfz92_1
          try clear hfz92_2
          try clear hfz94_0
          try clear hfz94_1
          try clear hfz94_2
          try clear hfz96_0
          try clear hfz96_1
          try clear hfz96_2
          try clear hfz98_0
          try clear hfz98_1
          try clear hfz98_2
          try clear p2
          obtain ⟨kq, x67_29, rfl, HA, HJ29, BK258, BK259, BK260, BK267, BK272, HB⟩ := hcut
          cases kq with
          | zero => exact absurd HA.out (by simp [lockkeeperlaw03_SpanOrder.j1])
          | succ kj29 =>
            have H := HA.out
            clear HA
            simp only [lockkeeperlaw03_SpanOrder.j1] at H
            by_cases c180 : x67_29 = true
            · subst c180
              have H1 : (none) = some r := by rw [if_pos rfl] at H; exact H
              clear H
              have H := H1
              clear H1
              exact absurd H (by simp)
            · replace c180 := Bool.eq_false_iff.mpr c180
              subst c180
              have H1 : ((span_Within.f kj29 a0_0 a0_1 a0_2 a1_0 a1_1 a1_2).bind fun t279 => (if t279 = true then ((span_Within.f kj29 a1_0 a1_1 a1_2 a2_0 a2_1 a2_2).bind fun t280 => (if t280 = true then ((span_Within.f kj29 a0_0 a0_1 a0_2 a2_0 a2_1 a2_2).bind fun t281 => (lockkeeperlaw03_SpanOrder.j2 kj29 t266 (!t281) a0_0 a0_1 a0_2 a1_0 a1_1 a1_2 t263 t264 t265)) else (lockkeeperlaw03_SpanOrder.j2 kj29 t266 false a0_0 a0_1 a0_2 a1_0 a1_1 a1_2 t263 t264 t265))) else (lockkeeperlaw03_SpanOrder.j2 kj29 t266 false a0_0 a0_1 a0_2 a1_0 a1_1 a1_2 t263 t264 t265))) = some r := by rw [if_neg (show ¬ (false = true) by decide)] at H; exact H
              clear H
              have H := H1
              clear H1
              have HC181 := Aside0.mk H
              clear H
              go_upto_region 7 with (fail)
              go_cut [81] (fun v81 wc => ∃ (kq : Nat) (x81_180 : Bool), v81 = .bool x81_180 ∧ Aside0 (lockkeeperlaw03_SpanOrder.j2 kq t266 x81_180 a0_0 a0_1 a0_2 a1_0 a1_1 a1_2 t263 t264 t265 = some r) ∧ Aside0 (kq ≤ kj29) ∧ Aside0 (wc.heap[gb258]? = some (.cells #[.string a0_0, .string a0_1, .bool a0_2] 31 (0, 0))) ∧ Aside0 (wc.heap[gb259]? = some (.cells #[.string a1_0, .string a1_1, .bool a1_2] 31 (0, 0))) ∧ Aside0 (wc.heap[gb260]? = some (.cells #[.string a2_0, .string a2_1, .bool a2_2] 31 (0, 0))) ∧ Aside0 (wc.heap[gb267]? = some (.cells #[.string t263, .string t264, .bool t265] 31 (0, 0))) ∧ Aside0 (wc.heap[gb272]? = some (.cells #[.string t268, .string t269, .bool t270] 31 (0, 0))) ∧ Aside0 (Below w.heap.size w wc))
              case first =>
                have H := HC181.out
                clear HC181
                replace H := Option.bind_eq_some_iff.mp H
                obtain ⟨t279, A1820, H⟩ := H
                replace H : (if t279 = true then ((span_Within.f kj29 a1_0 a1_1 a1_2 a2_0 a2_1 a2_2).bind fun t280 => (if t280 = true then ((span_Within.f kj29 a0_0 a0_1 a0_2 a2_0 a2_1 a2_2).bind fun t281 => (lockkeeperlaw03_SpanOrder.j2 kj29 t266 (!t281) a0_0 a0_1 a0_2 a1_0 a1_1 a1_2 t263 t264 t265)) else (lockkeeperlaw03_SpanOrder.j2 kj29 t266 false a0_0 a0_1 a0_2 a1_0 a1_1 a1_2 t263 t264 t265))) else (lockkeeperlaw03_SpanOrder.j2 kj29 t266 false a0_0 a0_1 a0_2 a1_0 a1_1 a1_2 t263 t264 t265)) = some r := H
                have A182 := Aside0.mk A1820
                clear A1820
                by_cases c183 : t279 = true
                · subst c183
                  have H1 : ((span_Within.f kj29 a1_0 a1_1 a1_2 a2_0 a2_1 a2_2).bind fun t280 => (if t280 = true then ((span_Within.f kj29 a0_0 a0_1 a0_2 a2_0 a2_1 a2_2).bind fun t281 => (lockkeeperlaw03_SpanOrder.j2 kj29 t266 (!t281) a0_0 a0_1 a0_2 a1_0 a1_1 a1_2 t263 t264 t265)) else (lockkeeperlaw03_SpanOrder.j2 kj29 t266 false a0_0 a0_1 a0_2 a1_0 a1_1 a1_2 t263 t264 t265))) = some r := by rw [if_pos rfl] at H; exact H
                  clear H
                  have H := H1
                  clear H1
                  replace H := Option.bind_eq_some_iff.mp H
                  obtain ⟨t280, A1840, H⟩ := H
                  replace H : (if t280 = true then ((span_Within.f kj29 a0_0 a0_1 a0_2 a2_0 a2_1 a2_2).bind fun t281 => (lockkeeperlaw03_SpanOrder.j2 kj29 t266 (!t281) a0_0 a0_1 a0_2 a1_0 a1_1 a1_2 t263 t264 t265)) else (lockkeeperlaw03_SpanOrder.j2 kj29 t266 false a0_0 a0_1 a0_2 a1_0 a1_1 a1_2 t263 t264 t265)) = some r := H
                  have A184 := Aside0.mk A1840
                  clear A1840
                  by_cases c185 : t280 = true
                  · subst c185
                    have H1 : ((span_Within.f kj29 a0_0 a0_1 a0_2 a2_0 a2_1 a2_2).bind fun t281 => (lockkeeperlaw03_SpanOrder.j2 kj29 t266 (!t281) a0_0 a0_1 a0_2 a1_0 a1_1 a1_2 t263 t264 t265)) = some r := by rw [if_pos rfl] at H; exact H
                    clear H
                    have H := H1
                    clear H1
                    replace H := Option.bind_eq_some_iff.mp H
                    obtain ⟨t281, A1860, H⟩ := H
                    replace H : (lockkeeperlaw03_SpanOrder.j2 kj29 t266 (!t281) a0_0 a0_1 a0_2 a1_0 a1_1 a1_2 t263 t264 t265) = some r := H
                    have A186 := Aside0.mk A1860
                    clear A1860
                    have H' := Aside0.mk H
                    clear H
                    have hnb187 := NB258_259.out
                    have hnc187 := NB259_258.out
                    have hnb188 := NB258_260.out
                    have hnc188 := NB260_258.out
                    have hnb189 := NB258_267.out
                    have hnc189 := NB267_258.out
                    have hnb190 := NB258_272.out
                    have hnc190 := NB272_258.out
                    have hcz191_0 : wc.cell? ⟨gb258, 0, none⟩ = some (.string a0_0) := (blk_cell BK258.out 0).trans rfl
                    have hcz191_1 : wc.cell? ⟨gb258, 1, none⟩ = some (.string a0_1) := (blk_cell BK258.out 1).trans rfl
                    have hcz191_2 : wc.cell? ⟨gb258, 2, none⟩ = some (.bool a0_2) := (blk_cell BK258.out 2).trans rfl
                    have hfz191_0 := blk_frozen BK258.out 0
                    have hfz191_1 := blk_frozen BK258.out 1
                    have hfz191_2 := blk_frozen BK258.out 2
                    have hnb192 := NB259_260.out
                    have hnc192 := NB260_259.out
                    have hnb193 := NB259_267.out
                    have hnc193 := NB267_259.out
                    have hnb194 := NB259_272.out
                    have hnc194 := NB272_259.out
                    have hcz195_0 : wc.cell? ⟨gb259, 0, none⟩ = some (.string a1_0) := (blk_cell BK259.out 0).trans rfl
                    have hcz195_1 : wc.cell? ⟨gb259, 1, none⟩ = some (.string a1_1) := (blk_cell BK259.out 1).trans rfl
                    have hcz195_2 : wc.cell? ⟨gb259, 2, none⟩ = some (.bool a1_2) := (blk_cell BK259.out 2).trans rfl
                    have hfz195_0 := blk_frozen BK259.out 0
                    have hfz195_1 := blk_frozen BK259.out 1
                    have hfz195_2 := blk_frozen BK259.out 2
                    go_wp2_with (first | ((with_reducible refine gate_callee (f := 20) rfl ?_); refine goesL_ (some 70) rfl rfl Try.func20 (by kernel_rfl) rfl #[.agg #[.string a0_0, .string a0_1, .bool a0_2], .agg #[.string a1_0, .string a1_1, .bool a1_2]] rfl (by (try simp only [List.map_toArray, List.map_cons, List.map_nil]); first | done | rfl | (simp only [List.length_drop, List.length_take]; rfl)) ?_; (with_reducible refine (span_Within.calls kj29 a0_0 a0_1 a0_2 a1_0 a1_1 a1_2 true _ A182.out).mono ?_); rintro e w196 ⟨rfl, hb⟩; refine ⟨_, rfl, ?_⟩; have n0_ := Aside0.mk (blk_below (g := gb258) (o := .cells #[.string a0_0, .string a0_1, .bool a0_2] 31 (0, 0)) (by (with_reducible repeat (first | refine blk_drewN ?_ _ | refine blk_drew ?_ | refine blk_alloc ?_ _)); exact BK258.out) hb); have n1_ := Aside0.mk (blk_below (g := gb259) (o := .cells #[.string a1_0, .string a1_1, .bool a1_2] 31 (0, 0)) (by (with_reducible repeat (first | refine blk_drewN ?_ _ | refine blk_drew ?_ | refine blk_alloc ?_ _)); exact BK259.out) hb); have n2_ := Aside0.mk (blk_below (g := gb260) (o := .cells #[.string a2_0, .string a2_1, .bool a2_2] 31 (0, 0)) (by (with_reducible repeat (first | refine blk_drewN ?_ _ | refine blk_drew ?_ | refine blk_alloc ?_ _)); exact BK260.out) hb); have n3_ := Aside0.mk (blk_below (g := gb267) (o := .cells #[.string t263, .string t264, .bool t265] 31 (0, 0)) (by (with_reducible repeat (first | refine blk_drewN ?_ _ | refine blk_drew ?_ | refine blk_alloc ?_ _)); exact BK267.out) hb); have n4_ := Aside0.mk (blk_below (g := gb272) (o := .cells #[.string t268, .string t269, .bool t270] 31 (0, 0)) (by (with_reducible repeat (first | refine blk_drewN ?_ _ | refine blk_drew ?_ | refine blk_alloc ?_ _)); exact BK272.out) hb); have n5_ := Aside0.mk (below_step (by repeat (first | (with_reducible first | exact HB.out | apply below_alloc | apply pw_below_drewN | apply below_drew1 | refine below_set ?_ GE258.out | refine below_set ?_ GE259.out | refine below_set ?_ GE260.out | refine below_set ?_ GE267.out | refine below_set ?_ GE272.out) | exact HB.out)) hb); clear BK258; clear BK259; clear BK260; clear BK267; clear BK272; clear HB; have BK258 := n0_; have BK259 := n1_; have BK260 := n2_; have BK267 := n3_; have BK272 := n4_; have HB := n5_; clear n0_ n1_ n2_ n3_ n4_ n5_; (try clear hb); (try clear hb2); (try clear hk); (try clear hi); have hcz197_0 : w196.cell? ⟨gb259, 0, none⟩ = some (.string a1_0) := (blk_cell BK259.out 0).trans rfl; have hcz197_1 : w196.cell? ⟨gb259, 1, none⟩ = some (.string a1_1) := (blk_cell BK259.out 1).trans rfl; have hcz197_2 : w196.cell? ⟨gb259, 2, none⟩ = some (.bool a1_2) := (blk_cell BK259.out 2).trans rfl; have hfz197_0 := blk_frozen BK259.out 0; have hfz197_1 := blk_frozen BK259.out 1; have hfz197_2 := blk_frozen BK259.out 2; have hnb198 := NB260_267.out; have hnc198 := NB267_260.out; have hnb199 := NB260_272.out; have hnc199 := NB272_260.out; have hcz200_0 : w196.cell? ⟨gb260, 0, none⟩ = some (.string a2_0) := (blk_cell BK260.out 0).trans rfl; have hcz200_1 : w196.cell? ⟨gb260, 1, none⟩ = some (.string a2_1) := (blk_cell BK260.out 1).trans rfl; have hcz200_2 : w196.cell? ⟨gb260, 2, none⟩ = some (.bool a2_2) := (blk_cell BK260.out 2).trans rfl; have hfz200_0 := blk_frozen BK260.out 0; have hfz200_1 := blk_frozen BK260.out 1; have hfz200_2 := blk_frozen BK260.out 2) | (go_at_call 20; (with_reducible refine (span_Within.calls kj29 a1_0 a1_1 a1_2 a2_0 a2_1 a2_2 true _ A184.out).mono ?_); rintro e w201 ⟨rfl, hb⟩; have n0_ := Aside0.mk (blk_below (g := gb258) (o := .cells #[.string a0_0, .string a0_1, .bool a0_2] 31 (0, 0)) (by (with_reducible repeat (first | refine blk_drewN ?_ _ | refine blk_drew ?_ | refine blk_alloc ?_ _)); exact BK258.out) hb); have n1_ := Aside0.mk (blk_below (g := gb259) (o := .cells #[.string a1_0, .string a1_1, .bool a1_2] 31 (0, 0)) (by (with_reducible repeat (first | refine blk_drewN ?_ _ | refine blk_drew ?_ | refine blk_alloc ?_ _)); exact BK259.out) hb); have n2_ := Aside0.mk (blk_below (g := gb260) (o := .cells #[.string a2_0, .string a2_1, .bool a2_2] 31 (0, 0)) (by (with_reducible repeat (first | refine blk_drewN ?_ _ | refine blk_drew ?_ | refine blk_alloc ?_ _)); exact BK260.out) hb); have n3_ := Aside0.mk (blk_below (g := gb267) (o := .cells #[.string t263, .string t264, .bool t265] 31 (0, 0)) (by (with_reducible repeat (first | refine blk_drewN ?_ _ | refine blk_drew ?_ | refine blk_alloc ?_ _)); exact BK267.out) hb); have n4_ := Aside0.mk (blk_below (g := gb272) (o := .cells #[.string t268, .string t269, .bool t270] 31 (0, 0)) (by (with_reducible repeat (first | refine blk_drewN ?_ _ | refine blk_drew ?_ | refine blk_alloc ?_ _)); exact BK272.out) hb); have n5_ := Aside0.mk (below_step (by repeat (first | (with_reducible first | exact HB.out | apply below_alloc | apply pw_below_drewN | apply below_drew1 | refine below_set ?_ GE258.out | refine below_set ?_ GE259.out | refine below_set ?_ GE260.out | refine below_set ?_ GE267.out | refine below_set ?_ GE272.out) | exact HB.out)) hb); clear BK258; clear BK259; clear BK260; clear BK267; clear BK272; clear HB; have BK258 := n0_; have BK259 := n1_; have BK260 := n2_; have BK267 := n3_; have BK272 := n4_; have HB := n5_; clear n0_ n1_ n2_ n3_ n4_ n5_; (try clear hb); (try clear hb2); (try clear hk); (try clear hi); have hcz202_0 : w201.cell? ⟨gb258, 0, none⟩ = some (.string a0_0) := (blk_cell BK258.out 0).trans rfl; have hcz202_1 : w201.cell? ⟨gb258, 1, none⟩ = some (.string a0_1) := (blk_cell BK258.out 1).trans rfl; have hcz202_2 : w201.cell? ⟨gb258, 2, none⟩ = some (.bool a0_2) := (blk_cell BK258.out 2).trans rfl; have hfz202_0 := blk_frozen BK258.out 0; have hfz202_1 := blk_frozen BK258.out 1; have hfz202_2 := blk_frozen BK258.out 2; have hcz203_0 : w201.cell? ⟨gb260, 0, none⟩ = some (.string a2_0) := (blk_cell BK260.out 0).trans rfl; have hcz203_1 : w201.cell? ⟨gb260, 1, none⟩ = some (.string a2_1) := (blk_cell BK260.out 1).trans rfl; have hcz203_2 : w201.cell? ⟨gb260, 2, none⟩ = some (.bool a2_2) := (blk_cell BK260.out 2).trans rfl; have hfz203_0 := blk_frozen BK260.out 0; have hfz203_1 := blk_frozen BK260.out 1; have hfz203_2 := blk_frozen BK260.out 2) | (go_at_call 20; (with_reducible refine (span_Within.calls kj29 a0_0 a0_1 a0_2 a2_0 a2_1 a2_2 t281 _ A186.out).mono ?_); rintro e w204 ⟨rfl, hb⟩; have n0_ := Aside0.mk (blk_below (g := gb258) (o := .cells #[.string a0_0, .string a0_1, .bool a0_2] 31 (0, 0)) (by (with_reducible repeat (first | refine blk_drewN ?_ _ | refine blk_drew ?_ | refine blk_alloc ?_ _)); exact BK258.out) hb); have n1_ := Aside0.mk (blk_below (g := gb259) (o := .cells #[.string a1_0, .string a1_1, .bool a1_2] 31 (0, 0)) (by (with_reducible repeat (first | refine blk_drewN ?_ _ | refine blk_drew ?_ | refine blk_alloc ?_ _)); exact BK259.out) hb); have n2_ := Aside0.mk (blk_below (g := gb260) (o := .cells #[.string a2_0, .string a2_1, .bool a2_2] 31 (0, 0)) (by (with_reducible repeat (first | refine blk_drewN ?_ _ | refine blk_drew ?_ | refine blk_alloc ?_ _)); exact BK260.out) hb); have n3_ := Aside0.mk (blk_below (g := gb267) (o := .cells #[.string t263, .string t264, .bool t265] 31 (0, 0)) (by (with_reducible repeat (first | refine blk_drewN ?_ _ | refine blk_drew ?_ | refine blk_alloc ?_ _)); exact BK267.out) hb); have n4_ := Aside0.mk (blk_below (g := gb272) (o := .cells #[.string t268, .string t269, .bool t270] 31 (0, 0)) (by (with_reducible repeat (first | refine blk_drewN ?_ _ | refine blk_drew ?_ | refine blk_alloc ?_ _)); exact BK272.out) hb); have n5_ := Aside0.mk (below_step (by repeat (first | (with_reducible first | exact HB.out | apply below_alloc | apply pw_below_drewN | apply below_drew1 | refine below_set ?_ GE258.out | refine below_set ?_ GE259.out | refine below_set ?_ GE260.out | refine below_set ?_ GE267.out | refine below_set ?_ GE272.out) | exact HB.out)) hb); clear BK258; clear BK259; clear BK260; clear BK267; clear BK272; clear HB; have BK258 := n0_; have BK259 := n1_; have BK260 := n2_; have BK267 := n3_; have BK272 := n4_; have HB := n5_; clear n0_ n1_ n2_ n3_ n4_ n5_; (try clear hb); (try clear hb2); (try clear hk); (try clear hi)))
                    go_meet
                    case rel => exact ⟨_, (!t281), (by first | rfl | (simp; done) | (simp [*]; done)), H', ⟨by have := HJ3.out; have := HJ29.out; first | omega | exact Nat.le_refl _⟩, ⟨by (with_reducible repeat (first | refine blk_drewN ?_ _ | refine blk_drew ?_ | refine blk_alloc ?_ _)); exact BK258.out⟩, ⟨by (with_reducible repeat (first | refine blk_drewN ?_ _ | refine blk_drew ?_ | refine blk_alloc ?_ _)); exact BK259.out⟩, ⟨by (with_reducible repeat (first | refine blk_drewN ?_ _ | refine blk_drew ?_ | refine blk_alloc ?_ _)); exact BK260.out⟩, ⟨by (with_reducible repeat (first | refine blk_drewN ?_ _ | refine blk_drew ?_ | refine blk_alloc ?_ _)); exact BK267.out⟩, ⟨by (with_reducible repeat (first | refine blk_drewN ?_ _ | refine blk_drew ?_ | refine blk_alloc ?_ _)); exact BK272.out⟩, ⟨by repeat (first | (with_reducible first | exact HB.out | apply below_alloc | apply pw_below_drewN | apply below_drew1 | refine below_set ?_ GE258.out | refine below_set ?_ GE259.out | refine below_set ?_ GE260.out | refine below_set ?_ GE267.out | refine below_set ?_ GE272.out) | exact HB.out)⟩⟩
                  · replace c185 := Bool.eq_false_iff.mpr c185
                    subst c185
                    have H1 : (lockkeeperlaw03_SpanOrder.j2 kj29 t266 false a0_0 a0_1 a0_2 a1_0 a1_1 a1_2 t263 t264 t265) = some r := by rw [if_neg (show ¬ (false = true) by decide)] at H; exact H
                    clear H
                    have H := H1
                    clear H1
                    have H' := Aside0.mk H
                    clear H
                    have hnb205 := NB258_259.out
                    have hnc205 := NB259_258.out
                    have hnb206 := NB258_260.out
                    have hnc206 := NB260_258.out
                    have hnb207 := NB258_267.out
                    have hnc207 := NB267_258.out
                    have hnb208 := NB258_272.out
                    have hnc208 := NB272_258.out
                    have hcz209_0 : wc.cell? ⟨gb258, 0, none⟩ = some (.string a0_0) := (blk_cell BK258.out 0).trans rfl
                    have hcz209_1 : wc.cell? ⟨gb258, 1, none⟩ = some (.string a0_1) := (blk_cell BK258.out 1).trans rfl
                    have hcz209_2 : wc.cell? ⟨gb258, 2, none⟩ = some (.bool a0_2) := (blk_cell BK258.out 2).trans rfl
                    have hfz209_0 := blk_frozen BK258.out 0
                    have hfz209_1 := blk_frozen BK258.out 1
                    have hfz209_2 := blk_frozen BK258.out 2
                    have hnb210 := NB259_260.out
                    have hnc210 := NB260_259.out
                    have hnb211 := NB259_267.out
                    have hnc211 := NB267_259.out
                    have hnb212 := NB259_272.out
                    have hnc212 := NB272_259.out
                    have hcz213_0 : wc.cell? ⟨gb259, 0, none⟩ = some (.string a1_0) := (blk_cell BK259.out 0).trans rfl
                    have hcz213_1 : wc.cell? ⟨gb259, 1, none⟩ = some (.string a1_1) := (blk_cell BK259.out 1).trans rfl
                    have hcz213_2 : wc.cell? ⟨gb259, 2, none⟩ = some (.bool a1_2) := (blk_cell BK259.out 2).trans rfl
                    have hfz213_0 := blk_frozen BK259.out 0
                    have hfz213_1 := blk_frozen BK259.out 1
                    have hfz213_2 := blk_frozen BK259.out 2
                    go_wp2_with (first | ((with_reducible refine gate_callee (f := 20) rfl ?_); refine goesL_ (some 70) rfl rfl Try.func20 (by kernel_rfl) rfl #[.agg #[.string a0_0, .string a0_1, .bool a0_2], .agg #[.string a1_0, .string a1_1, .bool a1_2]] rfl (by (try simp only [List.map_toArray, List.map_cons, List.map_nil]); first | done | rfl | (simp only [List.length_drop, List.length_take]; rfl)) ?_; (with_reducible refine (span_Within.calls kj29 a0_0 a0_1 a0_2 a1_0 a1_1 a1_2 true _ A182.out).mono ?_); rintro e w214 ⟨rfl, hb⟩; refine ⟨_, rfl, ?_⟩; have n0_ := Aside0.mk (blk_below (g := gb258) (o := .cells #[.string a0_0, .string a0_1, .bool a0_2] 31 (0, 0)) (by (with_reducible repeat (first | refine blk_drewN ?_ _ | refine blk_drew ?_ | refine blk_alloc ?_ _)); exact BK258.out) hb); have n1_ := Aside0.mk (blk_below (g := gb259) (o := .cells #[.string a1_0, .string a1_1, .bool a1_2] 31 (0, 0)) (by (with_reducible repeat (first | refine blk_drewN ?_ _ | refine blk_drew ?_ | refine blk_alloc ?_ _)); exact BK259.out) hb); have n2_ := Aside0.mk (blk_below (g := gb260) (o := .cells #[.string a2_0, .string a2_1, .bool a2_2] 31 (0, 0)) (by (with_reducible repeat (first | refine blk_drewN ?_ _ | refine blk_drew ?_ | refine blk_alloc ?_ _)); exact BK260.out) hb); have n3_ := Aside0.mk (blk_below (g := gb267) (o := .cells #[.string t263, .string t264, .bool t265] 31 (0, 0)) (by (with_reducible repeat (first | refine blk_drewN ?_ _ | refine blk_drew ?_ | refine blk_alloc ?_ _)); exact BK267.out) hb); have n4_ := Aside0.mk (blk_below (g := gb272) (o := .cells #[.string t268, .string t269, .bool t270] 31 (0, 0)) (by (with_reducible repeat (first | refine blk_drewN ?_ _ | refine blk_drew ?_ | refine blk_alloc ?_ _)); exact BK272.out) hb); have n5_ := Aside0.mk (below_step (by repeat (first | (with_reducible first | exact HB.out | apply below_alloc | apply pw_below_drewN | apply below_drew1 | refine below_set ?_ GE258.out | refine below_set ?_ GE259.out | refine below_set ?_ GE260.out | refine below_set ?_ GE267.out | refine below_set ?_ GE272.out) | exact HB.out)) hb); clear BK258; clear BK259; clear BK260; clear BK267; clear BK272; clear HB; have BK258 := n0_; have BK259 := n1_; have BK260 := n2_; have BK267 := n3_; have BK272 := n4_; have HB := n5_; clear n0_ n1_ n2_ n3_ n4_ n5_; (try clear hb); (try clear hb2); (try clear hk); (try clear hi); have hcz215_0 : w214.cell? ⟨gb259, 0, none⟩ = some (.string a1_0) := (blk_cell BK259.out 0).trans rfl; have hcz215_1 : w214.cell? ⟨gb259, 1, none⟩ = some (.string a1_1) := (blk_cell BK259.out 1).trans rfl; have hcz215_2 : w214.cell? ⟨gb259, 2, none⟩ = some (.bool a1_2) := (blk_cell BK259.out 2).trans rfl; have hfz215_0 := blk_frozen BK259.out 0; have hfz215_1 := blk_frozen BK259.out 1; have hfz215_2 := blk_frozen BK259.out 2; have hnb216 := NB260_267.out; have hnc216 := NB267_260.out; have hnb217 := NB260_272.out; have hnc217 := NB272_260.out; have hcz218_0 : w214.cell? ⟨gb260, 0, none⟩ = some (.string a2_0) := (blk_cell BK260.out 0).trans rfl; have hcz218_1 : w214.cell? ⟨gb260, 1, none⟩ = some (.string a2_1) := (blk_cell BK260.out 1).trans rfl; have hcz218_2 : w214.cell? ⟨gb260, 2, none⟩ = some (.bool a2_2) := (blk_cell BK260.out 2).trans rfl; have hfz218_0 := blk_frozen BK260.out 0; have hfz218_1 := blk_frozen BK260.out 1; have hfz218_2 := blk_frozen BK260.out 2) | (go_at_call 20; (with_reducible refine (span_Within.calls kj29 a1_0 a1_1 a1_2 a2_0 a2_1 a2_2 false _ A184.out).mono ?_); rintro e w219 ⟨rfl, hb⟩; have n0_ := Aside0.mk (blk_below (g := gb258) (o := .cells #[.string a0_0, .string a0_1, .bool a0_2] 31 (0, 0)) (by (with_reducible repeat (first | refine blk_drewN ?_ _ | refine blk_drew ?_ | refine blk_alloc ?_ _)); exact BK258.out) hb); have n1_ := Aside0.mk (blk_below (g := gb259) (o := .cells #[.string a1_0, .string a1_1, .bool a1_2] 31 (0, 0)) (by (with_reducible repeat (first | refine blk_drewN ?_ _ | refine blk_drew ?_ | refine blk_alloc ?_ _)); exact BK259.out) hb); have n2_ := Aside0.mk (blk_below (g := gb260) (o := .cells #[.string a2_0, .string a2_1, .bool a2_2] 31 (0, 0)) (by (with_reducible repeat (first | refine blk_drewN ?_ _ | refine blk_drew ?_ | refine blk_alloc ?_ _)); exact BK260.out) hb); have n3_ := Aside0.mk (blk_below (g := gb267) (o := .cells #[.string t263, .string t264, .bool t265] 31 (0, 0)) (by (with_reducible repeat (first | refine blk_drewN ?_ _ | refine blk_drew ?_ | refine blk_alloc ?_ _)); exact BK267.out) hb); have n4_ := Aside0.mk (blk_below (g := gb272) (o := .cells #[.string t268, .string t269, .bool t270] 31 (0, 0)) (by (with_reducible repeat (first | refine blk_drewN ?_ _ | refine blk_drew ?_ | refine blk_alloc ?_ _)); exact BK272.out) hb); have n5_ := Aside0.mk (below_step (by repeat (first | (with_reducible first | exact HB.out | apply below_alloc | apply pw_below_drewN | apply below_drew1 | refine below_set ?_ GE258.out | refine below_set ?_ GE259.out | refine below_set ?_ GE260.out | refine below_set ?_ GE267.out | refine below_set ?_ GE272.out) | exact HB.out)) hb); clear BK258; clear BK259; clear BK260; clear BK267; clear BK272; clear HB; have BK258 := n0_; have BK259 := n1_; have BK260 := n2_; have BK267 := n3_; have BK272 := n4_; have HB := n5_; clear n0_ n1_ n2_ n3_ n4_ n5_; (try clear hb); (try clear hb2); (try clear hk); (try clear hi)))
                    go_meet
                    case rel => exact ⟨_, (false), (by first | rfl | (simp; done) | (simp [*]; done)), H', ⟨by have := HJ3.out; have := HJ29.out; first | omega | exact Nat.le_refl _⟩, ⟨by (with_reducible repeat (first | refine blk_drewN ?_ _ | refine blk_drew ?_ | refine blk_alloc ?_ _)); exact BK258.out⟩, ⟨by (with_reducible repeat (first | refine blk_drewN ?_ _ | refine blk_drew ?_ | refine blk_alloc ?_ _)); exact BK259.out⟩, ⟨by (with_reducible repeat (first | refine blk_drewN ?_ _ | refine blk_drew ?_ | refine blk_alloc ?_ _)); exact BK260.out⟩, ⟨by (with_reducible repeat (first | refine blk_drewN ?_ _ | refine blk_drew ?_ | refine blk_alloc ?_ _)); exact BK267.out⟩, ⟨by (with_reducible repeat (first | refine blk_drewN ?_ _ | refine blk_drew ?_ | refine blk_alloc ?_ _)); exact BK272.out⟩, ⟨by repeat (first | (with_reducible first | exact HB.out | apply below_alloc | apply pw_below_drewN | apply below_drew1 | refine below_set ?_ GE258.out | refine below_set ?_ GE259.out | refine below_set ?_ GE260.out | refine below_set ?_ GE267.out | refine below_set ?_ GE272.out) | exact HB.out)⟩⟩
                · replace c183 := Bool.eq_false_iff.mpr c183
                  subst c183
                  have H1 : (lockkeeperlaw03_SpanOrder.j2 kj29 t266 false a0_0 a0_1 a0_2 a1_0 a1_1 a1_2 t263 t264 t265) = some r := by rw [if_neg (show ¬ (false = true) by decide)] at H; exact H
                  clear H
                  have H := H1
                  clear H1
                  have H' := Aside0.mk H
                  clear H
                  have hnb220 := NB258_259.out
                  have hnc220 := NB259_258.out
                  have hnb221 := NB258_260.out
                  have hnc221 := NB260_258.out
                  have hnb222 := NB258_267.out
                  have hnc222 := NB267_258.out
                  have hnb223 := NB258_272.out
                  have hnc223 := NB272_258.out
                  have hcz224_0 : wc.cell? ⟨gb258, 0, none⟩ = some (.string a0_0) := (blk_cell BK258.out 0).trans rfl
                  have hcz224_1 : wc.cell? ⟨gb258, 1, none⟩ = some (.string a0_1) := (blk_cell BK258.out 1).trans rfl
                  have hcz224_2 : wc.cell? ⟨gb258, 2, none⟩ = some (.bool a0_2) := (blk_cell BK258.out 2).trans rfl
                  have hfz224_0 := blk_frozen BK258.out 0
                  have hfz224_1 := blk_frozen BK258.out 1
                  have hfz224_2 := blk_frozen BK258.out 2
                  have hnb225 := NB259_260.out
                  have hnc225 := NB260_259.out
                  have hnb226 := NB259_267.out
                  have hnc226 := NB267_259.out
                  have hnb227 := NB259_272.out
                  have hnc227 := NB272_259.out
                  have hcz228_0 : wc.cell? ⟨gb259, 0, none⟩ = some (.string a1_0) := (blk_cell BK259.out 0).trans rfl
                  have hcz228_1 : wc.cell? ⟨gb259, 1, none⟩ = some (.string a1_1) := (blk_cell BK259.out 1).trans rfl
                  have hcz228_2 : wc.cell? ⟨gb259, 2, none⟩ = some (.bool a1_2) := (blk_cell BK259.out 2).trans rfl
                  have hfz228_0 := blk_frozen BK259.out 0
                  have hfz228_1 := blk_frozen BK259.out 1
                  have hfz228_2 := blk_frozen BK259.out 2
                  go_wp2_with (first | ((with_reducible refine gate_callee (f := 20) rfl ?_); refine goesL_ (some 70) rfl rfl Try.func20 (by kernel_rfl) rfl #[.agg #[.string a0_0, .string a0_1, .bool a0_2], .agg #[.string a1_0, .string a1_1, .bool a1_2]] rfl (by (try simp only [List.map_toArray, List.map_cons, List.map_nil]); first | done | rfl | (simp only [List.length_drop, List.length_take]; rfl)) ?_; (with_reducible refine (span_Within.calls kj29 a0_0 a0_1 a0_2 a1_0 a1_1 a1_2 false _ A182.out).mono ?_); rintro e w229 ⟨rfl, hb⟩; refine ⟨_, rfl, ?_⟩; have n0_ := Aside0.mk (blk_below (g := gb258) (o := .cells #[.string a0_0, .string a0_1, .bool a0_2] 31 (0, 0)) (by (with_reducible repeat (first | refine blk_drewN ?_ _ | refine blk_drew ?_ | refine blk_alloc ?_ _)); exact BK258.out) hb); have n1_ := Aside0.mk (blk_below (g := gb259) (o := .cells #[.string a1_0, .string a1_1, .bool a1_2] 31 (0, 0)) (by (with_reducible repeat (first | refine blk_drewN ?_ _ | refine blk_drew ?_ | refine blk_alloc ?_ _)); exact BK259.out) hb); have n2_ := Aside0.mk (blk_below (g := gb260) (o := .cells #[.string a2_0, .string a2_1, .bool a2_2] 31 (0, 0)) (by (with_reducible repeat (first | refine blk_drewN ?_ _ | refine blk_drew ?_ | refine blk_alloc ?_ _)); exact BK260.out) hb); have n3_ := Aside0.mk (blk_below (g := gb267) (o := .cells #[.string t263, .string t264, .bool t265] 31 (0, 0)) (by (with_reducible repeat (first | refine blk_drewN ?_ _ | refine blk_drew ?_ | refine blk_alloc ?_ _)); exact BK267.out) hb); have n4_ := Aside0.mk (blk_below (g := gb272) (o := .cells #[.string t268, .string t269, .bool t270] 31 (0, 0)) (by (with_reducible repeat (first | refine blk_drewN ?_ _ | refine blk_drew ?_ | refine blk_alloc ?_ _)); exact BK272.out) hb); have n5_ := Aside0.mk (below_step (by repeat (first | (with_reducible first | exact HB.out | apply below_alloc | apply pw_below_drewN | apply below_drew1 | refine below_set ?_ GE258.out | refine below_set ?_ GE259.out | refine below_set ?_ GE260.out | refine below_set ?_ GE267.out | refine below_set ?_ GE272.out) | exact HB.out)) hb); clear BK258; clear BK259; clear BK260; clear BK267; clear BK272; clear HB; have BK258 := n0_; have BK259 := n1_; have BK260 := n2_; have BK267 := n3_; have BK272 := n4_; have HB := n5_; clear n0_ n1_ n2_ n3_ n4_ n5_; (try clear hb); (try clear hb2); (try clear hk); (try clear hi)))
                  go_meet
                  case rel => exact ⟨_, (false), (by first | rfl | (simp; done) | (simp [*]; done)), H', ⟨by have := HJ3.out; have := HJ29.out; first | omega | exact Nat.le_refl _⟩, ⟨by (with_reducible repeat (first | refine blk_drewN ?_ _ | refine blk_drew ?_ | refine blk_alloc ?_ _)); exact BK258.out⟩, ⟨by (with_reducible repeat (first | refine blk_drewN ?_ _ | refine blk_drew ?_ | refine blk_alloc ?_ _)); exact BK259.out⟩, ⟨by (with_reducible repeat (first | refine blk_drewN ?_ _ | refine blk_drew ?_ | refine blk_alloc ?_ _)); exact BK260.out⟩, ⟨by (with_reducible repeat (first | refine blk_drewN ?_ _ | refine blk_drew ?_ | refine blk_alloc ?_ _)); exact BK267.out⟩, ⟨by (with_reducible repeat (first | refine blk_drewN ?_ _ | refine blk_drew ?_ | refine blk_alloc ?_ _)); exact BK272.out⟩, ⟨by repeat (first | (with_reducible first | exact HB.out | apply below_alloc | apply pw_below_drewN | apply below_drew1 | refine below_set ?_ GE258.out | refine below_set ?_ GE259.out | refine below_set ?_ GE260.out | refine below_set ?_ GE267.out | refine below_set ?_ GE272.out) | exact HB.out)⟩⟩
              case rest =>
                clear HC181
                try clear c1
                try clear c2
                try clear p2
                try clear c3
                try clear c4
                try clear c5
                try clear c6
                try clear c7
                try clear c8
                try clear c9
                try clear c10
                try clear c11
                try clear c12
                try clear c13
                try clear c14
                try clear c15
                try clear c16
                try clear c17
                try clear c18
                try clear c19
                try clear c20
                try clear c21
                try clear c22
                try clear c25
                try clear c31
                try clear c32
                try clear c34
                try clear c38
                try clear c39
                try clear c40
                try clear c46
                try clear c47
                try clear c48
                try clear c49
                try clear c51
                try clear c51b0
                try clear c52
                try clear c53
                try clear c54
                try clear c55
                try clear c57
                try clear c58
                try clear c59
                try clear c61
                try clear c61b0
                try clear c61b1
                try clear c61b2
                try clear c62
                try clear c63
                try clear c64
                try clear c65
                try clear c67
                try clear c68
                try clear c69
                try clear c71
                try clear c73
                try clear c75
                try clear c77
                try clear c79
                try clear c80
                try clear c81
                try clear c82
                try clear c84
                try clear c85
                try clear c86
                try clear c88
                try clear c89
                try clear c93
                try clear c100
                try clear c101
                try clear c102
                try clear c103
                try clear c105
                try clear c106
                try clear c107
                try clear c109
                try clear c110
                try clear c114
                try clear c119
                try clear c120
                try clear c121
                try clear c122
                try clear c124
                try clear c125
                try clear c126
                try clear c128
                try clear c129
                try clear c133
                try clear c136
                try clear c137
                try clear c138
                try clear c139
                try clear c141
                try clear c142
                try clear c143
                try clear c145
                try clear c146
                try clear c150
                try clear c152
                try clear c153
                try clear c154
                try clear c155
                try clear c157
                try clear c158
                try clear c159
                try clear c161
                try clear c162
                try clear c167
                try clear c168
                try clear c169
                try clear c170
                try clear c172
                try clear c173
                try clear c174
                try clear c176
                try clear c177
                try clear c180
                try clear c183
                try clear c185
                try clear c187
                try clear c188
                try clear c189
                try clear c190
                try clear c192
                try clear c193
                try clear c194
                try clear c198
                try clear c199
                try clear c205
                try clear c206
                try clear c207
                try clear c208
                try clear c210
                try clear c211
                try clear c212
                try clear c216
                try clear c217
                try clear c220
                try clear c221
                try clear c222
                try clear c223
                try clear c225
                try clear c226
                try clear c227
                try clear hcz104_0
                try clear hcz104_1
                try clear hcz104_2
                try clear hcz108_0
                try clear hcz108_1
                try clear hcz108_2
                try clear hcz111_0
                try clear hcz111_1
                try clear hcz111_2
                try clear hcz113_0
                try clear hcz113_1
                try clear hcz113_2
                try clear hcz115_0
                try clear hcz115_1
                try clear hcz115_2
                try clear hcz117_0
                try clear hcz117_1
                try clear hcz117_2
                try clear hcz123_0
                try clear hcz123_1
                try clear hcz123_2
                try clear hcz127_0
                try clear hcz127_1
                try clear hcz127_2
                try clear hcz12_0
                try clear hcz12_1
                try clear hcz12_2
                try clear hcz130_0
                try clear hcz130_1
                try clear hcz130_2
                try clear hcz132_0
                try clear hcz132_1
                try clear hcz132_2
                try clear hcz134_0
                try clear hcz134_1
                try clear hcz134_2
                try clear hcz140_0
                try clear hcz140_1
                try clear hcz140_2
                try clear hcz144_0
                try clear hcz144_1
                try clear hcz144_2
                try clear hcz147_0
                try clear hcz147_1
                try clear hcz147_2
                try clear hcz14_0
                try clear hcz14_1
                try clear hcz14_2
                try clear hcz156_0
                try clear hcz156_1
                try clear hcz156_2
                try clear hcz15_0
                try clear hcz15_1
                try clear hcz15_2
                try clear hcz160_0
                try clear hcz160_1
                try clear hcz160_2
                try clear hcz163_0
                try clear hcz163_1
                try clear hcz163_2
                try clear hcz165_0
                try clear hcz165_1
                try clear hcz165_2
                try clear hcz171_0
                try clear hcz171_1
                try clear hcz171_2
                try clear hcz175_0
                try clear hcz175_1
                try clear hcz175_2
                try clear hcz178_0
                try clear hcz178_1
                try clear hcz178_2
                try clear hcz191_0
                try clear hcz191_1
                try clear hcz191_2
                try clear hcz195_0
                try clear hcz195_1
                try clear hcz195_2
                try clear hcz197_0
                try clear hcz197_1
                try clear hcz197_2
                try clear hcz19_0
                try clear hcz19_1
                try clear hcz19_2
                try clear hcz200_0
                try clear hcz200_1
                try clear hcz200_2
                try clear hcz202_0
                try clear hcz202_1
                try clear hcz202_2
                try clear hcz203_0
                try clear hcz203_1
                try clear hcz203_2
                try clear hcz209_0
                try clear hcz209_1
                try clear hcz209_2
                try clear hcz213_0
                try clear hcz213_1
                try clear hcz213_2
                try clear hcz215_0
                try clear hcz215_1
                try clear hcz215_2
                try clear hcz218_0
                try clear hcz218_1
                try clear hcz218_2
                try clear hcz21_0
                try clear hcz21_1
                try clear hcz21_2
                try clear hcz224_0
                try clear hcz224_1
                try clear hcz224_2
                try clear hcz228_0
                try clear hcz228_1
                try clear hcz228_2
                try clear hcz22_0
                try clear hcz22_1
                try clear hcz22_2
                try clear hcz24_0
                try clear hcz24_1
                try clear hcz24_2
                try clear hcz33_0
                try clear hcz33_1
                try clear hcz33_2
                try clear hcz35_0
                try clear hcz35_1
                try clear hcz35_2
                try clear hcz41_0
                try clear hcz41_1
                try clear hcz41_2
                try clear hcz42_0
                try clear hcz42_1
                try clear hcz42_2
                try clear hcz43_0
                try clear hcz43_1
                try clear hcz43_2
                try clear hcz50_0
                try clear hcz50_1
                try clear hcz50_2
                try clear hcz56_0
                try clear hcz56_1
                try clear hcz56_2
                try clear hcz60_0
                try clear hcz60_1
                try clear hcz60_2
                try clear hcz66_0
                try clear hcz66_1
                try clear hcz66_2
                try clear hcz70_0
                try clear hcz70_1
                try clear hcz70_2
                try clear hcz83_0
                try clear hcz83_1
                try clear hcz83_2
                try clear hcz87_0
                try clear hcz87_1
                try clear hcz87_2
                try clear hcz90_0
                try clear hcz90_1
                try clear hcz90_2
                try clear hcz92_0
                try clear hcz92_1
                try clear hcz92_2
                try clear hcz94_0
                try clear hcz94_1
                try clear hcz94_2
                try clear hcz96_0
                try clear hcz96_1
                try clear hcz96_2
                try clear hcz98_0
                try clear hcz98_1
                try clear hcz98_2
                try clear hfz104_0
                try clear hfz104_1
                try clear hfz104_2
                try clear hfz108_0
                try clear hfz108_1
                try clear hfz108_2
                try clear hfz111_0
                try clear hfz111_1
                try clear hfz111_2
                try clear hfz113_0
                try clear hfz113_1
                try clear hfz113_2
                try clear hfz115_0
                try clear hfz115_1
                try clear hfz115_2
                try clear hfz117_0
                try clear hfz117_1
                try clear hfz117_2
                try clear hfz123_0
                try clear hfz123_1
                try clear hfz123_2
                try clear hfz127_0
                try clear hfz127_1
                try clear hfz127_2
                try clear hfz12_0
                try clear hfz12_1
                try clear hfz12_2
                try clear hfz130_0
                try clear hfz130_1
                try clear hfz130_2
                try clear hfz132_0
                try clear hfz132_1
                try clear hfz132_2
                try clear hfz134_0
                try clear hfz134_1
                try clear hfz134_2
                try clear hfz140_0
                try clear hfz140_1
                try clear hfz140_2
                try clear hfz144_0
                try clear hfz144_1
                try clear hfz144_2
                try clear hfz147_0
                try clear hfz147_1
                try clear hfz147_2
                try clear hfz14_0
                try clear hfz14_1
                try clear hfz14_2
                try clear hfz156_0
                try clear hfz156_1
                try clear hfz156_2
                try clear hfz15_0
                try clear hfz15_1
                try clear hfz15_2
                try clear hfz160_0
                try clear hfz160_1
                try clear hfz160_2
                try clear hfz163_0
                try clear hfz163_1
                try clear hfz163_2
                try clear hfz165_0
                try clear hfz165_1
                try clear hfz165_2
                try clear hfz171_0
                try clear hfz171_1
                try clear hfz171_2
                try clear hfz175_0
                try clear hfz175_1
                try clear hfz175_2
                try clear hfz178_0
                try clear hfz178_1
                try clear hfz178_2
                try clear hfz191_0
                try clear hfz191_1
                try clear hfz191_2
                try clear hfz195_0
                try clear hfz195_1
                try clear hfz195_2
                try clear hfz197_0
                try clear hfz197_1
                try clear hfz197_2
                try clear hfz19_0
                try clear hfz19_1
                try clear hfz19_2
                try clear hfz200_0
                try clear hfz200_1
                try clear hfz200_2
                try clear hfz202_0
                try clear hfz202_1
                try clear hfz202_2
                try clear hfz203_0
                try clear hfz203_1
                try clear hfz203_2
                try clear hfz209_0
                try clear hfz209_1
                try clear hfz209_2
                try clear hfz213_0
                try clear hfz213_1
                try clear hfz213_2
                try clear hfz215_0
                try clear hfz215_1
                try clear hfz215_2
                try clear hfz218_0
                try clear hfz218_1
                try clear hfz218_2
                try clear hfz21_0
                try clear hfz21_1
                try clear hfz21_2
                try clear hfz224_0
                try clear hfz224_1
                try clear hfz224_2
                try clear hfz228_0
                try clear hfz228_1
                try clear hfz228_2
                try clear hfz22_0
                try clear hfz22_1
                try clear hfz22_2
                try clear hfz24_0
                try clear hfz24_1
                try clear hfz24_2
                try clear hfz33_0
                try clear hfz33_1
                try clear hfz33_2
                try clear hfz35_0
                try clear hfz35_1
                try clear hfz35_2
                try clear hfz41_0
                try clear hfz41_1
                try clear hfz41_2
                try clear hfz42_0
                try clear hfz42_1
                try clear hfz42_2
                try clear hfz43_0
                try clear hfz43_1
                try clear hfz43_2
                try clear hfz50_0
                try clear hfz50_1
                try clear hfz50_2
                try clear hfz56_0
                try clear hfz56_1
                try clear hfz56_2
                try clear hfz60_0
                try clear hfz60_1
                try clear hfz60_2
                try clear hfz66_0
                try clear hfz66_1
                try clear hfz66_2
                try clear hfz70_0
                try clear hfz70_1
                try clear hfz70_2
                try clear hfz83_0
                try clear hfz83_1
                try clear hfz83_2
                try clear hfz87_0
                try clear hfz87_1
                try clear hfz87_2
                try clear hfz90_0
                try clear hfz90_1
                try clear hfz90_2
                try clear hfz92_0
                try clear hfz92_1
                try clear hfz92_2
                try clear hfz94_0
                try clear hfz94_1
                try clear hfz94_2
                try clear hfz96_0
                try clear hfz96_1
                try clear hfz96_2
                try clear hfz98_0
                try clear hfz98_1
                try clear hfz98_2
                try clear p2
                obtain ⟨kq, x81_180, rfl, HA, HJ180, BK258, BK259, BK260, BK267, BK272, HB⟩ := hcut
                cases kq with
                | zero => exact absurd HA.out (by simp [lockkeeperlaw03_SpanOrder.j2])
                | succ kj180 =>
                  have H := HA.out
                  clear HA
                  simp only [lockkeeperlaw03_SpanOrder.j2] at H
                  by_cases c230 : x81_180 = true
                  · subst c230
                    have H1 : (none) = some r := by rw [if_pos rfl] at H; exact H
                    clear H
                    have H := H1
                    clear H1
                    exact absurd H (by simp)
                  · replace c230 := Bool.eq_false_iff.mpr c230
                    subst c230
                    have H1 : ((span_Within.f kj180 a0_0 a0_1 a0_2 a1_0 a1_1 a1_2).bind fun t282 => (if t266 = true then (if (t282 == (t263.toList == a0_0.toList && (t264.toList == a0_1.toList && (t265 == a0_2)))) = true then ((lockkeeperlaw03_head.f kj180).bind fun t283 => (some t283)) else (none)) else (if t282 = true then (none) else ((lockkeeperlaw03_head.f kj180).bind fun t284 => (some t284))))) = some r := by rw [if_neg (show ¬ (false = true) by decide)] at H; exact H
                    clear H
                    have H := H1
                    clear H1
                    replace H := Option.bind_eq_some_iff.mp H
                    obtain ⟨t282, A2310, H⟩ := H
                    replace H : (if t266 = true then (if (t282 == (t263.toList == a0_0.toList && (t264.toList == a0_1.toList && (t265 == a0_2)))) = true then ((lockkeeperlaw03_head.f kj180).bind fun t283 => (some t283)) else (none)) else (if t282 = true then (none) else ((lockkeeperlaw03_head.f kj180).bind fun t284 => (some t284)))) = some r := H
                    have A231 := Aside0.mk A2310
                    clear A2310
                    by_cases c232 : t266 = true
                    · subst c232
                      have H1 : (if (t282 == (t263.toList == a0_0.toList && (t264.toList == a0_1.toList && (t265 == a0_2)))) = true then ((lockkeeperlaw03_head.f kj180).bind fun t283 => (some t283)) else (none)) = some r := by rw [if_pos rfl] at H; exact H
                      clear H
                      have H := H1
                      clear H1
                      by_cases c233 : (t282 == (t263.toList == a0_0.toList && (t264.toList == a0_1.toList && (t265 == a0_2)))) = true
                      · rw [if_pos c233] at H
                        have c233b0 : (t282 == (t263.toList == a0_0.toList && (t264.toList == a0_1.toList && (t265 == a0_2)))) = true := c233
                        (try (have c233b1 : decide (t282 = (t263.toList == a0_0.toList && (t264.toList == a0_1.toList && (t265 == a0_2)))) = true := by simpa using c233))
                        (try (have c233b2 : (t282 == (t263.toList == a0_0.toList && (t264.toList == a0_1.toList && (t265 == a0_2)))) = true := by simpa using c233))
                        clear c233
                        replace H := Option.bind_eq_some_iff.mp H
                        obtain ⟨t283, A2340, H⟩ := H
                        replace H : (some t283) = some r := H
                        have A234 := Aside0.mk A2340
                        clear A2340
                        obtain rfl := Option.some.inj H
                        have hnb235 := NB258_259.out
                        have hnc235 := NB259_258.out
                        have hnb236 := NB258_260.out
                        have hnc236 := NB260_258.out
                        have hnb237 := NB258_267.out
                        have hnc237 := NB267_258.out
                        have hnb238 := NB258_272.out
                        have hnc238 := NB272_258.out
                        have hcz239_0 : wc.cell? ⟨gb258, 0, none⟩ = some (.string a0_0) := (blk_cell BK258.out 0).trans rfl
                        have hcz239_1 : wc.cell? ⟨gb258, 1, none⟩ = some (.string a0_1) := (blk_cell BK258.out 1).trans rfl
                        have hcz239_2 : wc.cell? ⟨gb258, 2, none⟩ = some (.bool a0_2) := (blk_cell BK258.out 2).trans rfl
                        have hfz239_0 := blk_frozen BK258.out 0
                        have hfz239_1 := blk_frozen BK258.out 1
                        have hfz239_2 := blk_frozen BK258.out 2
                        have hnb240 := NB259_260.out
                        have hnc240 := NB260_259.out
                        have hnb241 := NB259_267.out
                        have hnc241 := NB267_259.out
                        have hnb242 := NB259_272.out
                        have hnc242 := NB272_259.out
                        have hcz243_0 : wc.cell? ⟨gb259, 0, none⟩ = some (.string a1_0) := (blk_cell BK259.out 0).trans rfl
                        have hcz243_1 : wc.cell? ⟨gb259, 1, none⟩ = some (.string a1_1) := (blk_cell BK259.out 1).trans rfl
                        have hcz243_2 : wc.cell? ⟨gb259, 2, none⟩ = some (.bool a1_2) := (blk_cell BK259.out 2).trans rfl
                        have hfz243_0 := blk_frozen BK259.out 0
                        have hfz243_1 := blk_frozen BK259.out 1
                        have hfz243_2 := blk_frozen BK259.out 2
                        go_wp2_with (first | ((with_reducible refine gate_callee (f := 20) rfl ?_); refine goesL_ (some 84) rfl rfl Try.func20 (by kernel_rfl) rfl #[.agg #[.string a0_0, .string a0_1, .bool a0_2], .agg #[.string a1_0, .string a1_1, .bool a1_2]] rfl (by (try simp only [List.map_toArray, List.map_cons, List.map_nil]); first | done | rfl | (simp only [List.length_drop, List.length_take]; rfl)) ?_; (with_reducible refine (span_Within.calls kj180 a0_0 a0_1 a0_2 a1_0 a1_1 a1_2 t282 _ A231.out).mono ?_); rintro e w244 ⟨rfl, hb⟩; refine ⟨_, rfl, ?_⟩; have n0_ := Aside0.mk (blk_below (g := gb258) (o := .cells #[.string a0_0, .string a0_1, .bool a0_2] 31 (0, 0)) (by (with_reducible repeat (first | refine blk_drewN ?_ _ | refine blk_drew ?_ | refine blk_alloc ?_ _)); exact BK258.out) hb); have n1_ := Aside0.mk (blk_below (g := gb259) (o := .cells #[.string a1_0, .string a1_1, .bool a1_2] 31 (0, 0)) (by (with_reducible repeat (first | refine blk_drewN ?_ _ | refine blk_drew ?_ | refine blk_alloc ?_ _)); exact BK259.out) hb); have n2_ := Aside0.mk (blk_below (g := gb260) (o := .cells #[.string a2_0, .string a2_1, .bool a2_2] 31 (0, 0)) (by (with_reducible repeat (first | refine blk_drewN ?_ _ | refine blk_drew ?_ | refine blk_alloc ?_ _)); exact BK260.out) hb); have n3_ := Aside0.mk (blk_below (g := gb267) (o := .cells #[.string t263, .string t264, .bool t265] 31 (0, 0)) (by (with_reducible repeat (first | refine blk_drewN ?_ _ | refine blk_drew ?_ | refine blk_alloc ?_ _)); exact BK267.out) hb); have n4_ := Aside0.mk (blk_below (g := gb272) (o := .cells #[.string t268, .string t269, .bool t270] 31 (0, 0)) (by (with_reducible repeat (first | refine blk_drewN ?_ _ | refine blk_drew ?_ | refine blk_alloc ?_ _)); exact BK272.out) hb); have n5_ := Aside0.mk (below_step (by repeat (first | (with_reducible first | exact HB.out | apply below_alloc | apply pw_below_drewN | apply below_drew1 | refine below_set ?_ GE258.out | refine below_set ?_ GE259.out | refine below_set ?_ GE260.out | refine below_set ?_ GE267.out | refine below_set ?_ GE272.out) | exact HB.out)) hb); clear BK258; clear BK259; clear BK260; clear BK267; clear BK272; clear HB; have BK258 := n0_; have BK259 := n1_; have BK260 := n2_; have BK267 := n3_; have BK272 := n4_; have HB := n5_; clear n0_ n1_ n2_ n3_ n4_ n5_; (try clear hb); (try clear hb2); (try clear hk); (try clear hi); have hnb245 := NB267_260.out; have hnc245 := NB260_267.out; have hnb246 := NB267_272.out; have hnc246 := NB272_267.out; have hcz247_0 : w244.cell? ⟨gb267, 0, none⟩ = some (.string t263) := (blk_cell BK267.out 0).trans rfl; have hcz247_1 : w244.cell? ⟨gb267, 1, none⟩ = some (.string t264) := (blk_cell BK267.out 1).trans rfl; have hcz247_2 : w244.cell? ⟨gb267, 2, none⟩ = some (.bool t265) := (blk_cell BK267.out 2).trans rfl; have hfz247_0 := blk_frozen BK267.out 0; have hfz247_1 := blk_frozen BK267.out 1; have hfz247_2 := blk_frozen BK267.out 2; have hcz248_0 : w244.cell? ⟨gb258, 0, none⟩ = some (.string a0_0) := (blk_cell BK258.out 0).trans rfl; have hcz248_1 : w244.cell? ⟨gb258, 1, none⟩ = some (.string a0_1) := (blk_cell BK258.out 1).trans rfl; have hcz248_2 : w244.cell? ⟨gb258, 2, none⟩ = some (.bool a0_2) := (blk_cell BK258.out 2).trans rfl; have hfz248_0 := blk_frozen BK258.out 0; have hfz248_1 := blk_frozen BK258.out 1; have hfz248_2 := blk_frozen BK258.out 2) | (go_at_call 8; (with_reducible refine (lockkeeperlaw03_head.calls kj180  t283 _ A234.out).mono ?_); rintro e w249 ⟨rfl, hb⟩; have n0_ := Aside0.mk (blk_below (g := gb258) (o := .cells #[.string a0_0, .string a0_1, .bool a0_2] 31 (0, 0)) (by (with_reducible repeat (first | refine blk_drewN ?_ _ | refine blk_drew ?_ | refine blk_alloc ?_ _)); exact BK258.out) hb); have n1_ := Aside0.mk (blk_below (g := gb259) (o := .cells #[.string a1_0, .string a1_1, .bool a1_2] 31 (0, 0)) (by (with_reducible repeat (first | refine blk_drewN ?_ _ | refine blk_drew ?_ | refine blk_alloc ?_ _)); exact BK259.out) hb); have n2_ := Aside0.mk (blk_below (g := gb260) (o := .cells #[.string a2_0, .string a2_1, .bool a2_2] 31 (0, 0)) (by (with_reducible repeat (first | refine blk_drewN ?_ _ | refine blk_drew ?_ | refine blk_alloc ?_ _)); exact BK260.out) hb); have n3_ := Aside0.mk (blk_below (g := gb267) (o := .cells #[.string t263, .string t264, .bool t265] 31 (0, 0)) (by (with_reducible repeat (first | refine blk_drewN ?_ _ | refine blk_drew ?_ | refine blk_alloc ?_ _)); exact BK267.out) hb); have n4_ := Aside0.mk (blk_below (g := gb272) (o := .cells #[.string t268, .string t269, .bool t270] 31 (0, 0)) (by (with_reducible repeat (first | refine blk_drewN ?_ _ | refine blk_drew ?_ | refine blk_alloc ?_ _)); exact BK272.out) hb); have n5_ := Aside0.mk (below_step (by repeat (first | (with_reducible first | exact HB.out | apply below_alloc | apply pw_below_drewN | apply below_drew1 | refine below_set ?_ GE258.out | refine below_set ?_ GE259.out | refine below_set ?_ GE260.out | refine below_set ?_ GE267.out | refine below_set ?_ GE272.out) | exact HB.out)) hb); clear BK258; clear BK259; clear BK260; clear BK267; clear BK272; clear HB; have BK258 := n0_; have BK259 := n1_; have BK260 := n2_; have BK267 := n3_; have BK272 := n4_; have HB := n5_; clear n0_ n1_ n2_ n3_ n4_ n5_; (try clear hb); (try clear hb2); (try clear hk); (try clear hi)))
                        go_ret
                        exact ⟨by first | rfl | (simp [errW_none, errW_some] <;> rfl) | (simp [*, errW_none, errW_some] <;> rfl), by repeat (first | (with_reducible first | exact HB.out | apply below_alloc | apply pw_below_drewN | apply below_drew1 | refine below_set ?_ GE258.out | refine below_set ?_ GE259.out | refine below_set ?_ GE260.out | refine below_set ?_ GE267.out | refine below_set ?_ GE272.out) | exact HB.out)⟩
                      · rw [if_neg c233] at H
                        exact absurd H (by simp)
                    · replace c232 := Bool.eq_false_iff.mpr c232
                      subst c232
                      have H1 : (if t282 = true then (none) else ((lockkeeperlaw03_head.f kj180).bind fun t284 => (some t284))) = some r := by rw [if_neg (show ¬ (false = true) by decide)] at H; exact H
                      clear H
                      have H := H1
                      clear H1
                      by_cases c250 : t282 = true
                      · subst c250
                        have H1 : (none) = some r := by rw [if_pos rfl] at H; exact H
                        clear H
                        have H := H1
                        clear H1
                        exact absurd H (by simp)
                      · replace c250 := Bool.eq_false_iff.mpr c250
                        subst c250
                        have H1 : ((lockkeeperlaw03_head.f kj180).bind fun t284 => (some t284)) = some r := by rw [if_neg (show ¬ (false = true) by decide)] at H; exact H
                        clear H
                        have H := H1
                        clear H1
                        replace H := Option.bind_eq_some_iff.mp H
                        obtain ⟨t284, A2510, H⟩ := H
                        replace H : (some t284) = some r := H
                        have A251 := Aside0.mk A2510
                        clear A2510
                        obtain rfl := Option.some.inj H
                        have hnb252 := NB258_259.out
                        have hnc252 := NB259_258.out
                        have hnb253 := NB258_260.out
                        have hnc253 := NB260_258.out
                        have hnb254 := NB258_267.out
                        have hnc254 := NB267_258.out
                        have hnb255 := NB258_272.out
                        have hnc255 := NB272_258.out
                        have hcz256_0 : wc.cell? ⟨gb258, 0, none⟩ = some (.string a0_0) := (blk_cell BK258.out 0).trans rfl
                        have hcz256_1 : wc.cell? ⟨gb258, 1, none⟩ = some (.string a0_1) := (blk_cell BK258.out 1).trans rfl
                        have hcz256_2 : wc.cell? ⟨gb258, 2, none⟩ = some (.bool a0_2) := (blk_cell BK258.out 2).trans rfl
                        have hfz256_0 := blk_frozen BK258.out 0
                        have hfz256_1 := blk_frozen BK258.out 1
                        have hfz256_2 := blk_frozen BK258.out 2
                        have hnb257 := NB259_260.out
                        have hnc257 := NB260_259.out
                        have hnb258 := NB259_267.out
                        have hnc258 := NB267_259.out
                        have hnb259 := NB259_272.out
                        have hnc259 := NB272_259.out
                        have hcz260_0 : wc.cell? ⟨gb259, 0, none⟩ = some (.string a1_0) := (blk_cell BK259.out 0).trans rfl
                        have hcz260_1 : wc.cell? ⟨gb259, 1, none⟩ = some (.string a1_1) := (blk_cell BK259.out 1).trans rfl
                        have hcz260_2 : wc.cell? ⟨gb259, 2, none⟩ = some (.bool a1_2) := (blk_cell BK259.out 2).trans rfl
                        have hfz260_0 := blk_frozen BK259.out 0
                        have hfz260_1 := blk_frozen BK259.out 1
                        have hfz260_2 := blk_frozen BK259.out 2
                        go_wp2_with (first | ((with_reducible refine gate_callee (f := 20) rfl ?_); refine goesL_ (some 84) rfl rfl Try.func20 (by kernel_rfl) rfl #[.agg #[.string a0_0, .string a0_1, .bool a0_2], .agg #[.string a1_0, .string a1_1, .bool a1_2]] rfl (by (try simp only [List.map_toArray, List.map_cons, List.map_nil]); first | done | rfl | (simp only [List.length_drop, List.length_take]; rfl)) ?_; (with_reducible refine (span_Within.calls kj180 a0_0 a0_1 a0_2 a1_0 a1_1 a1_2 false _ A231.out).mono ?_); rintro e w261 ⟨rfl, hb⟩; refine ⟨_, rfl, ?_⟩; have n0_ := Aside0.mk (blk_below (g := gb258) (o := .cells #[.string a0_0, .string a0_1, .bool a0_2] 31 (0, 0)) (by (with_reducible repeat (first | refine blk_drewN ?_ _ | refine blk_drew ?_ | refine blk_alloc ?_ _)); exact BK258.out) hb); have n1_ := Aside0.mk (blk_below (g := gb259) (o := .cells #[.string a1_0, .string a1_1, .bool a1_2] 31 (0, 0)) (by (with_reducible repeat (first | refine blk_drewN ?_ _ | refine blk_drew ?_ | refine blk_alloc ?_ _)); exact BK259.out) hb); have n2_ := Aside0.mk (blk_below (g := gb260) (o := .cells #[.string a2_0, .string a2_1, .bool a2_2] 31 (0, 0)) (by (with_reducible repeat (first | refine blk_drewN ?_ _ | refine blk_drew ?_ | refine blk_alloc ?_ _)); exact BK260.out) hb); have n3_ := Aside0.mk (blk_below (g := gb267) (o := .cells #[.string t263, .string t264, .bool t265] 31 (0, 0)) (by (with_reducible repeat (first | refine blk_drewN ?_ _ | refine blk_drew ?_ | refine blk_alloc ?_ _)); exact BK267.out) hb); have n4_ := Aside0.mk (blk_below (g := gb272) (o := .cells #[.string t268, .string t269, .bool t270] 31 (0, 0)) (by (with_reducible repeat (first | refine blk_drewN ?_ _ | refine blk_drew ?_ | refine blk_alloc ?_ _)); exact BK272.out) hb); have n5_ := Aside0.mk (below_step (by repeat (first | (with_reducible first | exact HB.out | apply below_alloc | apply pw_below_drewN | apply below_drew1 | refine below_set ?_ GE258.out | refine below_set ?_ GE259.out | refine below_set ?_ GE260.out | refine below_set ?_ GE267.out | refine below_set ?_ GE272.out) | exact HB.out)) hb); clear BK258; clear BK259; clear BK260; clear BK267; clear BK272; clear HB; have BK258 := n0_; have BK259 := n1_; have BK260 := n2_; have BK267 := n3_; have BK272 := n4_; have HB := n5_; clear n0_ n1_ n2_ n3_ n4_ n5_; (try clear hb); (try clear hb2); (try clear hk); (try clear hi)) | (go_at_call 8; (with_reducible refine (lockkeeperlaw03_head.calls kj180  t284 _ A251.out).mono ?_); rintro e w262 ⟨rfl, hb⟩; have n0_ := Aside0.mk (blk_below (g := gb258) (o := .cells #[.string a0_0, .string a0_1, .bool a0_2] 31 (0, 0)) (by (with_reducible repeat (first | refine blk_drewN ?_ _ | refine blk_drew ?_ | refine blk_alloc ?_ _)); exact BK258.out) hb); have n1_ := Aside0.mk (blk_below (g := gb259) (o := .cells #[.string a1_0, .string a1_1, .bool a1_2] 31 (0, 0)) (by (with_reducible repeat (first | refine blk_drewN ?_ _ | refine blk_drew ?_ | refine blk_alloc ?_ _)); exact BK259.out) hb); have n2_ := Aside0.mk (blk_below (g := gb260) (o := .cells #[.string a2_0, .string a2_1, .bool a2_2] 31 (0, 0)) (by (with_reducible repeat (first | refine blk_drewN ?_ _ | refine blk_drew ?_ | refine blk_alloc ?_ _)); exact BK260.out) hb); have n3_ := Aside0.mk (blk_below (g := gb267) (o := .cells #[.string t263, .string t264, .bool t265] 31 (0, 0)) (by (with_reducible repeat (first | refine blk_drewN ?_ _ | refine blk_drew ?_ | refine blk_alloc ?_ _)); exact BK267.out) hb); have n4_ := Aside0.mk (blk_below (g := gb272) (o := .cells #[.string t268, .string t269, .bool t270] 31 (0, 0)) (by (with_reducible repeat (first | refine blk_drewN ?_ _ | refine blk_drew ?_ | refine blk_alloc ?_ _)); exact BK272.out) hb); have n5_ := Aside0.mk (below_step (by repeat (first | (with_reducible first | exact HB.out | apply below_alloc | apply pw_below_drewN | apply below_drew1 | refine below_set ?_ GE258.out | refine below_set ?_ GE259.out | refine below_set ?_ GE260.out | refine below_set ?_ GE267.out | refine below_set ?_ GE272.out) | exact HB.out)) hb); clear BK258; clear BK259; clear BK260; clear BK267; clear BK272; clear HB; have BK258 := n0_; have BK259 := n1_; have BK260 := n2_; have BK267 := n3_; have BK272 := n4_; have HB := n5_; clear n0_ n1_ n2_ n3_ n4_ n5_; (try clear hb); (try clear hb2); (try clear hk); (try clear hi)))
                        go_ret
                        exact ⟨by first | rfl | (simp [errW_none, errW_some] <;> rfl) | (simp [*, errW_none, errW_some] <;> rfl), by repeat (first | (with_reducible first | exact HB.out | apply below_alloc | apply pw_below_drewN | apply below_drew1 | refine below_set ?_ GE258.out | refine below_set ?_ GE259.out | refine below_set ?_ GE260.out | refine below_set ?_ GE267.out | refine below_set ?_ GE272.out) | exact HB.out)⟩

/-- THE ONE PURE STATEMENT of lockkeeperlaw03_SpanOrder. -/
def lockkeeperlaw03_SpanOrder.Pure : Prop := ∀ (a0_0 : ByteArray) (a0_1 : ByteArray) (a0_2 : Bool) (a1_0 : ByteArray) (a1_1 : ByteArray) (a1_2 : Bool) (a2_0 : ByteArray) (a2_1 : ByteArray) (a2_2 : Bool), a0_0.size ≤ 140737488351232 → a0_1.size ≤ 140737488351232 → a1_0.size ≤ 140737488351232 → a1_1.size ≤ 140737488351232 → a2_0.size ≤ 140737488351232 → a2_1.size ≤ 140737488351232 → ∃ k, lockkeeperlaw03_SpanOrder.f k a0_0 a0_1 a0_2 a1_0 a1_1 a1_2 a2_0 a2_1 a2_2 = some true

end Go.Proofs.Ytmekkbhgeijndaa.Z

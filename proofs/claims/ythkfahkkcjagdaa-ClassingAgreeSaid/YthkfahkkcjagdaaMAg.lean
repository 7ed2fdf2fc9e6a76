/- Make of the fractions (num: size, gcd, made, Make; cut out of the kit's print), Base of a valid subsample, near: the walks. Printed by gen_ag1.py. -/
import Derived.Test.YthkfahkkcjagdaaProg
import Derived.Below
import Derived.Deep.Draws
import Derived.Deep.AppendLies
import Derived.Maps.AppendAt
import Derived.OwnWalk
import Derived.Laws.BytesArg
import Derived.Laws.MakeOwn
import Derived.Laws.OwnMore
import Derived.Deep.OwnRows
import Derived.Tactics
import Derived.Lib.ConvBytes
import Derived.Laws.Slices
import Derived.WalkKit
import Derived.KernelRfl
import Derived.RowKit3
import Derived.Deep.LoopGhost
import Derived.Deep.QuietTactic
import Derived.BigQuiet
import Derived.WideLaws
import Derived.Deep.DeepCutAuto
import Derived.Deep.CutBlock
import Derived.Deep.RegionHeld3
import Derived.Laws.Rows
import Derived.Lib.AppendStr
import Derived.ArgAppend
import Derived.Laws.IdiomCopy
import Derived.OrdersHeld
import Derived.Laws.BitsLemmas
import Derived.RowKit
import Derived.Test.YthkfahkkcjagdaaWWords
import Derived.Test.YthkfahkkcjagdaaWLast
import Derived.Test.YthkfahkkcjagdaaWQPut
import Derived.Test.YthkfahkkcjagdaaWApart
import Derived.Test.YthkfahkkcjagdaaWArr
import Derived.Test.YthkfahkkcjagdaaWZeros
import Derived.Test.YthkfahkkcjagdaaWFoot
import Derived.Test.YthkfahkkcjagdaaWKept
import Derived.Test.YthkfahkkcjagdaaWShare
import Derived.Test.YthkfahkkcjagdaaWN
import Derived.Test.YthkfahkkcjagdaaWRepsOne
import Derived.Test.YthkfahkkcjagdaaWGuard
import Derived.Test.YthkfahkkcjagdaaWNEv
import Derived.Test.YthkfahkkcjagdaaWMore
import Derived.Test.YthkfahkkcjagdaaMTa
import Derived.Test.YthkfahkkcjagdaaMTe
namespace Go.Proofs.Ythkfahkkcjagdaa.PClassingQuantiles
open Go.RowKit Go.Proofs.YthkfahkkcjagdaaW.PrintWords Go.Proofs.YthkfahkkcjagdaaW.PrintLast Go.Proofs.YthkfahkkcjagdaaW.PrintMore
attribute [local go_sem] max2_int min2_int max_two min_two max_three min_three max_four min_four   -- for this text's walks alone
set_option linter.unusedVariables false
set_option linter.unusedSimpArgs false



def errW : Option Int → Value
  | none => .nilIface
  | some c => .iface 0 (.int .i64 c)
theorem errW_none : errW none = .nilIface := rfl
theorem errW_some (c : Int) : errW (some c) = .iface 0 (.int .i64 c) := rfl

-- the values' own types

end Go.Proofs.Ythkfahkkcjagdaa.PClassingQuantiles

namespace Go.Proofs.Ythkfahkkcjagdaa.PClassingQuantiles
open Go.RowKit Go.Proofs.YthkfahkkcjagdaaW.PrintWords Go.Proofs.YthkfahkkcjagdaaW.PrintLast Go.Proofs.YthkfahkkcjagdaaW.PrintMore
attribute [local go_sem] max2_int min2_int max_two min_two max_three min_three max_four min_four
set_option linter.unusedVariables false
set_option linter.unusedSimpArgs false

/-! ### num_size: function 108 -/
def num_size.f (a0 : Int) : Option (Int) := if a0 < 0 then (some (IntKind.u64.wrap (-(IntKind.u64.wrap (a0))))) else (some (IntKind.u64.wrap (a0)))
set_option maxHeartbeats 8000000 in
set_option maxRecDepth 100000 in
theorem num_size.calls (a0 : Int) (r : Int) (w : World) (h : num_size.f a0 = some r) :
    Calls Try.prog 108 #[.int .i64 a0] w fun e w' => e = .returned (.int .u64 r) ∧ Drawn0 w w' := by
  have H : (if a0 < 0 then (some (IntKind.u64.wrap (-(IntKind.u64.wrap (a0))))) else (some (IntKind.u64.wrap (a0)))) = some r := h
  clear h
  by_cases c2 : a0 < 0
  · rw [if_pos c2] at H
    have c2b0 : decide (a0 < 0) = true := decide_eq_true c2
    clear c2
    obtain rfl := Option.some.inj H
    go_enter Try.func108, Try.ntmps108
    go_wp2
    go_ret
    exact ⟨by first | rfl | (simp; done) | (simp [*]; done), by repeat (first | exact Drawn0.refl _ | apply Drawn0.step)⟩
  · rw [if_neg c2] at H
    have c2b0 : decide (a0 < 0) = false := decide_eq_false c2
    clear c2
    obtain rfl := Option.some.inj H
    go_enter Try.func108, Try.ntmps108
    go_wp2
    go_ret
    exact ⟨by first | rfl | (simp; done) | (simp [*]; done), by repeat (first | exact Drawn0.refl _ | apply Drawn0.step)⟩

/-! ### num_gcd: function 119 -/
def num_gcd.l0 : Nat → Int → Int → Option (Int)
  | 0, _, _ => none
  | k + 1, x0, x1 => if x1 = 0 then (some x0) else (num_gcd.l0 k x1 (Int.tmod x0 x1))
def num_gcd.f (k : Nat) (a0 : Int) (a1 : Int) : Option (Int) := num_gcd.l0 k a0 a1
theorem num_gcd.mono_l : ∀ k, (∀ y0 y1, LeO (num_gcd.l0 k y0 y1) (num_gcd.l0 (k + 1) y0 y1))
  | 0 => fun _ _ r h => by simp [num_gcd.l0] at h
  | k + 1 => by
    have ih0 := num_gcd.mono_l k
    · intro y0 y1
      unfold num_gcd.l0
      repeat' first
      | (with_reducible exact ih0 _ _)
      | (with_reducible exact LeO.refl _)
      | (with_reducible exact LeO.none _)
      | (with_reducible refine LeO.ite ?_ ?_)
      | (with_reducible refine LeO.bind ?_ (fun _ => ?_))
      | exact ih0 _ _
      | exact LeO.none _
      | refine LeO.ite ?_ ?_
      | refine LeO.bind ?_ (fun _ => ?_)
theorem num_gcd.mono : ∀ a0 a1 k, LeO (num_gcd.f k a0 a1) (num_gcd.f (k + 1) a0 a1) := by
  intro a0 a1 k
  have ih0 := num_gcd.mono_l k
  unfold num_gcd.f
  repeat' first
      | (with_reducible exact ih0 _ _)
      | (with_reducible exact LeO.refl _)
      | (with_reducible exact LeO.none _)
      | (with_reducible refine LeO.ite ?_ ?_)
      | (with_reducible refine LeO.bind ?_ (fun _ => ?_))
      | exact ih0 _ _
      | exact LeO.none _
      | refine LeO.ite ?_ ?_
      | refine LeO.bind ?_ (fun _ => ?_)
set_option maxHeartbeats 8000000 in
set_option maxRecDepth 100000 in
theorem num_gcd.calls (k : Nat) (a0 : Int) (a1 : Int) (r : Int) (w : World) (h : num_gcd.f k a0 a1 = some r) :
    Calls Try.prog 119 #[.int .u64 a0, .int .u64 a1] w fun e w' => e = .returned (.int .u64 r) ∧ Drawn0 w w' := by
  have H : (num_gcd.l0 k a0 a1) = some r := h
  clear h
  have H' := Aside0.mk H
  clear H
  go_enter Try.func119, Try.ntmps119
  go_wp2
  repeat (go_quiet (fail); try go_wp2)
  go_loopg [0, 1] k (fun kq v0 v1 w' => ∃ (x0_1 : Int) (x1_1 : Int), v0 = .int .u64 x0_1 ∧ v1 = .int .u64 x1_1 ∧ Aside0 (num_gcd.l0 kq x0_1 x1_1 = some r) ∧ Aside0 (kq ≤ k) ∧ Drawn0 w w')
  case atStart => exact ⟨(a0), (a1), (by first | rfl | (simp; done) | (simp [*]; done)), (by first | rfl | (simp; done) | (simp [*]; done)), H', ⟨Nat.le_refl _⟩, by repeat (first | exact Drawn0.refl _ | apply Drawn0.step)⟩
  case round =>
    clear H'
    try clear c1
    try clear p2
    obtain ⟨x0_1, x1_1, rfl, rfl, HA, HK1, ⟨m1, rfl⟩⟩ := hrel
    cases gk with
    | zero => exact absurd HA.out (by simp [num_gcd.l0])
    | succ k1 =>
      have H := HA.out
      clear HA
      simp only [num_gcd.l0] at H
      by_cases c3 : x1_1 = 0
      · rw [if_pos c3] at H
        have c3b0 : (x1_1 == 0) = true := beq_iff_eq.mpr c3
        have c3b1 : (x1_1 != 0) = false := bne_eq_false_iff_eq.mpr c3
        clear c3
        obtain rfl := Option.some.inj H
        go_wp2
        repeat (go_quiet (fail); try go_wp2)
        go_ret
        exact ⟨by first | rfl | (simp; done) | (simp [*]; done), by repeat (first | exact Drawn0.refl _ | apply Drawn0.step)⟩
      · rw [if_neg c3] at H
        have c3b0 : (x1_1 == 0) = false := beq_eq_false_iff_ne.mpr c3
        have c3b1 : (x1_1 != 0) = true := bne_iff_ne.mpr c3
        have H' := Aside0.mk H
        clear H
        go_wp2
        repeat (go_quiet (fail); try go_wp2)
        go_roundg k1
        case measure => have := HK1.out; omega
        case rel => exact ⟨(x1_1), (Int.tmod x0_1 x1_1), (by first | rfl | (simp; done) | (simp [*]; done)), (by first | rfl | (simp; done) | (simp [*]; done)), H', ⟨by have := HK1.out; omega⟩, by repeat (first | exact Drawn0.refl _ | apply Drawn0.step)⟩

/-! ### num_made: function 107 -/
def num_made.j0 : Nat → Bool → Int → Int → Bool → Option (Int × Int × Int)
  | 0, _, _, _, _ => none
  | k + 1, x0, x1, x2, x23 => if x23 = true then (some (0, 0, 4)) else (if x0 = true then (some (wrap64 (-(wrap64 (x1))), wrap64 (x2), 0)) else (some (wrap64 (x1), wrap64 (x2), 0)))
def num_made.f (k : Nat) (a0 : Bool) (a1 : Int) (a2 : Int) : Option (Int × Int × Int) := (num_gcd.f k a1 a2).bind fun t107 => (if t107 = 0 then (none) else (if (IntKind.u64.wrap (Int.tdiv a1 t107)) > 1099511627776 then (num_made.j0 k a0 (IntKind.u64.wrap (Int.tdiv a1 t107)) (IntKind.u64.wrap (Int.tdiv a2 t107)) true) else (num_made.j0 k a0 (IntKind.u64.wrap (Int.tdiv a1 t107)) (IntKind.u64.wrap (Int.tdiv a2 t107)) (decide ((IntKind.u64.wrap (Int.tdiv a2 t107)) > 1048576)))))
theorem num_made.mono_l : ∀ k, (∀ y0 y1 y2 y3, LeO (num_made.j0 k y0 y1 y2 y3) (num_made.j0 (k + 1) y0 y1 y2 y3))
  | 0 => fun _ _ _ _ r h => by simp [num_made.j0] at h
  | k + 1 => by
    have ih0 := num_made.mono_l k
    · intro y0 y1 y2 y3
      unfold num_made.j0
      repeat' first
      | (with_reducible exact ih0 _ _ _ _)
      | (with_reducible exact num_gcd.mono _ _ _)
      | (with_reducible exact LeO.refl _)
      | (with_reducible exact LeO.none _)
      | (with_reducible refine LeO.ite ?_ ?_)
      | (with_reducible refine LeO.bind ?_ (fun _ => ?_))
      | exact ih0 _ _ _ _
      | exact num_gcd.mono _ _ _
      | exact LeO.none _
      | refine LeO.ite ?_ ?_
      | refine LeO.bind ?_ (fun _ => ?_)
theorem num_made.mono : ∀ a0 a1 a2 k, LeO (num_made.f k a0 a1 a2) (num_made.f (k + 1) a0 a1 a2) := by
  intro a0 a1 a2 k
  have ih0 := num_made.mono_l k
  unfold num_made.f
  repeat' first
      | (with_reducible exact ih0 _ _ _ _)
      | (with_reducible exact num_gcd.mono _ _ _)
      | (with_reducible exact LeO.refl _)
      | (with_reducible exact LeO.none _)
      | (with_reducible refine LeO.ite ?_ ?_)
      | (with_reducible refine LeO.bind ?_ (fun _ => ?_))
      | exact ih0 _ _ _ _
      | exact num_gcd.mono _ _ _
      | exact LeO.none _
      | refine LeO.ite ?_ ?_
      | refine LeO.bind ?_ (fun _ => ?_)
set_option maxHeartbeats 8000000 in
set_option maxRecDepth 100000 in
theorem num_made.calls (k : Nat) (a0 : Bool) (a1 : Int) (a2 : Int) (r1 : Int) (r2 : Int) (r3 : Int) (w : World) (h : num_made.f k a0 a1 a2 = some (r1, r2, r3)) :
    Calls Try.prog 107 #[.bool a0, .int .u64 a1, .int .u64 a2] w fun e w' => e = .returned (.tuple #[.agg #[.int .i64 r1, .int .i64 r2], .int .i64 r3]) ∧ Below w.heap.size w w' := by
  have hu57 := Try.underlying57
  have HB := Aside0.mk (Below.refl w.heap.size w)
  have H : ((num_gcd.f k a1 a2).bind fun t107 => (if t107 = 0 then (none) else (if (IntKind.u64.wrap (Int.tdiv a1 t107)) > 1099511627776 then (num_made.j0 k a0 (IntKind.u64.wrap (Int.tdiv a1 t107)) (IntKind.u64.wrap (Int.tdiv a2 t107)) true) else (num_made.j0 k a0 (IntKind.u64.wrap (Int.tdiv a1 t107)) (IntKind.u64.wrap (Int.tdiv a2 t107)) (decide ((IntKind.u64.wrap (Int.tdiv a2 t107)) > 1048576)))))) = some (r1, r2, r3) := h
  clear h
  replace H := Option.bind_eq_some_iff.mp H
  obtain ⟨t107, A40, H⟩ := H
  replace H : (if t107 = 0 then (none) else (if (IntKind.u64.wrap (Int.tdiv a1 t107)) > 1099511627776 then (num_made.j0 k a0 (IntKind.u64.wrap (Int.tdiv a1 t107)) (IntKind.u64.wrap (Int.tdiv a2 t107)) true) else (num_made.j0 k a0 (IntKind.u64.wrap (Int.tdiv a1 t107)) (IntKind.u64.wrap (Int.tdiv a2 t107)) (decide ((IntKind.u64.wrap (Int.tdiv a2 t107)) > 1048576))))) = some (r1, r2, r3) := H
  have A4 := Aside0.mk A40
  clear A40
  by_cases c5 : t107 = 0
  · rw [if_pos c5] at H
    exact absurd H (by simp)
  · rw [if_neg c5] at H
    have c5b0 : (t107 == 0) = false := beq_eq_false_iff_ne.mpr c5
    have c5b1 : (t107 != 0) = true := bne_iff_ne.mpr c5
    have HC6 := Aside0.mk H
    clear H
    go_enter Try.func107, Try.ntmps107
    go_upto_region 3 with (first | ((with_reducible refine gate_dst (N := 6) rfl ?_); refine box_event ?hg (N := 6) ?hd (cs := #[.int .i64 0, .int .i64 0]) (t := 57) ?hr ?_; (case hd => rfl); (case hg => rfl); (case hr => first | (go_simp; done) | (go_simp; rfl)); intro gb106 hg w7 hbox hb; have n0_ := Aside0.mk (below_step (by repeat (first | (with_reducible first | exact HB.out | apply below_alloc | apply pw_below_drewN | apply below_drew1) | exact HB.out)) hb); have n1_ := Aside0.mk (hbox); have n2_ := Aside0.mk ((by rw [hg]; exact (below_size (by repeat (first | (with_reducible first | exact HB.out | apply below_alloc | apply pw_below_drewN | apply below_drew1) | exact HB.out))) : w.heap.size ≤ gb106)); have n3_ := Aside0.mk ((by rw [hg]; exact (below_size (by repeat (first | (with_reducible first | exact HB.out | apply below_alloc | apply pw_below_drewN | apply below_drew1) | exact HB.out))) : w.heap.size ≤ gb106)); clear HB; have HB := n0_; have BK106 := n1_; have GW106 := n2_; have GE106 := n3_; clear n0_ n1_ n2_ n3_; clear hb hbox hg) | (go_at_call 119; (with_reducible refine (num_gcd.calls k a1 a2 t107 _ A4.out).mono ?_); rintro e w' ⟨rfl, ⟨nd, rfl⟩⟩; (try first | exact ⟨rfl, _, World.drewN_drewN _ _ _⟩ | exact ⟨rfl, _, Eq.trans (World.drewN_drewN _ _ _) (congrArg (World.drewN _) (Nat.add_assoc _ _ _))⟩)))
    repeat (go_quiet (first | ((with_reducible refine gate_dst (N := 6) rfl ?_); refine box_event ?hg (N := 6) ?hd (cs := #[.int .i64 0, .int .i64 0]) (t := 57) ?hr ?_; (case hd => rfl); (case hg => rfl); (case hr => first | (go_simp; done) | (go_simp; rfl)); intro gb106 hg w7 hbox hb; have n0_ := Aside0.mk (below_step (by repeat (first | (with_reducible first | exact HB.out | apply below_alloc | apply pw_below_drewN | apply below_drew1) | exact HB.out)) hb); have n1_ := Aside0.mk (hbox); have n2_ := Aside0.mk ((by rw [hg]; exact (below_size (by repeat (first | (with_reducible first | exact HB.out | apply below_alloc | apply pw_below_drewN | apply below_drew1) | exact HB.out))) : w.heap.size ≤ gb106)); have n3_ := Aside0.mk ((by rw [hg]; exact (below_size (by repeat (first | (with_reducible first | exact HB.out | apply below_alloc | apply pw_below_drewN | apply below_drew1) | exact HB.out))) : w.heap.size ≤ gb106)); clear HB; have HB := n0_; have BK106 := n1_; have GW106 := n2_; have GE106 := n3_; clear n0_ n1_ n2_ n3_; clear hb hbox hg) | (go_at_call 119; (with_reducible refine (num_gcd.calls k a1 a2 t107 _ A4.out).mono ?_); rintro e w' ⟨rfl, ⟨nd, rfl⟩⟩; (try first | exact ⟨rfl, _, World.drewN_drewN _ _ _⟩ | exact ⟨rfl, _, Eq.trans (World.drewN_drewN _ _ _) (congrArg (World.drewN _) (Nat.add_assoc _ _ _))⟩))); go_upto_region 3 with (first | ((with_reducible refine gate_dst (N := 6) rfl ?_); refine box_event ?hg (N := 6) ?hd (cs := #[.int .i64 0, .int .i64 0]) (t := 57) ?hr ?_; (case hd => rfl); (case hg => rfl); (case hr => first | (go_simp; done) | (go_simp; rfl)); intro gb106 hg w7 hbox hb; have n0_ := Aside0.mk (below_step (by repeat (first | (with_reducible first | exact HB.out | apply below_alloc | apply pw_below_drewN | apply below_drew1) | exact HB.out)) hb); have n1_ := Aside0.mk (hbox); have n2_ := Aside0.mk ((by rw [hg]; exact (below_size (by repeat (first | (with_reducible first | exact HB.out | apply below_alloc | apply pw_below_drewN | apply below_drew1) | exact HB.out))) : w.heap.size ≤ gb106)); have n3_ := Aside0.mk ((by rw [hg]; exact (below_size (by repeat (first | (with_reducible first | exact HB.out | apply below_alloc | apply pw_below_drewN | apply below_drew1) | exact HB.out))) : w.heap.size ≤ gb106)); clear HB; have HB := n0_; have BK106 := n1_; have GW106 := n2_; have GE106 := n3_; clear n0_ n1_ n2_ n3_; clear hb hbox hg) | (go_at_call 119; (with_reducible refine (num_gcd.calls k a1 a2 t107 _ A4.out).mono ?_); rintro e w' ⟨rfl, ⟨nd, rfl⟩⟩; (try first | exact ⟨rfl, _, World.drewN_drewN _ _ _⟩ | exact ⟨rfl, _, Eq.trans (World.drewN_drewN _ _ _) (congrArg (World.drewN _) (Nat.add_assoc _ _ _))⟩))))
    (try simp only [Act.put, List.setIfInBounds_toArray, List.set_cons_zero, List.set_cons_succ])
    go_cut [23] (fun v23 wc => ∃ (kq : Nat) (x23_5 : Bool), v23 = .bool x23_5 ∧ Aside0 (num_made.j0 kq a0 (IntKind.u64.wrap (Int.tdiv a1 t107)) (IntKind.u64.wrap (Int.tdiv a2 t107)) x23_5 = some (r1, r2, r3)) ∧ Aside0 (kq ≤ k) ∧ Aside0 (wc.heap[gb106]? = some (.cells #[.int .i64 0, .int .i64 0] 57 (0, 0))) ∧ Aside0 (Below w.heap.size w wc))
    case first =>
      have H := HC6.out
      clear HC6
      by_cases c8 : (IntKind.u64.wrap (Int.tdiv a1 t107)) > 1099511627776
      · rw [if_pos c8] at H
        have c8b0 : decide (1099511627776 < (IntKind.u64.wrap (Int.tdiv a1 t107))) = true := decide_eq_true c8
        clear c8
        (first | rw [c8b0] | (simp only [i64_w, i32_w]; rw [c8b0]) | skip)
        have H' := Aside0.mk H
        clear H
        go_wp2
        repeat (go_quiet (fail); try go_wp2)
        go_meet
        case rel => exact ⟨_, (true), (by first | rfl | (simp; done) | (simp [*]; done)), H', ⟨by first | omega | exact Nat.le_refl _⟩, ⟨by (with_reducible repeat (first | refine blk_drewN ?_ _ | refine blk_drew ?_ | refine blk_alloc ?_ _)); exact BK106.out⟩, ⟨by repeat (first | (with_reducible first | exact HB.out | apply below_alloc | apply pw_below_drewN | apply below_drew1 | refine below_set ?_ GE106.out) | exact HB.out)⟩⟩
      · rw [if_neg c8] at H
        have c8b0 : decide (1099511627776 < (IntKind.u64.wrap (Int.tdiv a1 t107))) = false := decide_eq_false c8
        clear c8
        (first | rw [c8b0] | (simp only [i64_w, i32_w]; rw [c8b0]) | skip)
        have H' := Aside0.mk H
        clear H
        go_wp2
        repeat (go_quiet (fail); try go_wp2)
        go_meet
        case rel => exact ⟨_, (decide ((IntKind.u64.wrap (Int.tdiv a2 t107)) > 1048576)), (by first | rfl | (simp; done) | (simp [*]; done)), H', ⟨by first | omega | exact Nat.le_refl _⟩, ⟨by (with_reducible repeat (first | refine blk_drewN ?_ _ | refine blk_drew ?_ | refine blk_alloc ?_ _)); exact BK106.out⟩, ⟨by repeat (first | (with_reducible first | exact HB.out | apply below_alloc | apply pw_below_drewN | apply below_drew1 | refine below_set ?_ GE106.out) | exact HB.out)⟩⟩
    case rest =>
      clear HC6
      try clear c1
      try clear p2
      try clear c5
      try clear c5b0
      try clear c5b1
      try clear c8
      try clear c8b0
      obtain ⟨kq, x23_5, rfl, HA, HJ5, BK106, HB⟩ := hcut
      cases kq with
      | zero => exact absurd HA.out (by simp [num_made.j0])
      | succ kj5 =>
        have H := HA.out
        clear HA
        simp only [num_made.j0] at H
        by_cases c9 : x23_5 = true
        · subst c9
          have H1 : (some (0, 0, 4)) = some (r1, r2, r3) := by rw [if_pos rfl] at H; exact H
          clear H
          have H := H1
          clear H1
          simp only [Option.some.injEq, Prod.mk.injEq] at H
          obtain ⟨rfl, rfl, rfl⟩ := H
          have hcz10_0 : wc.cell? ⟨gb106, 0, none⟩ = some (.int .i64 0) := (blk_cell BK106.out 0).trans rfl
          have hcz10_1 : wc.cell? ⟨gb106, 1, none⟩ = some (.int .i64 0) := (blk_cell BK106.out 1).trans rfl
          have hfz10_0 := blk_frozen BK106.out 0
          have hfz10_1 := blk_frozen BK106.out 1
          go_wp2
          repeat (go_quiet (fail); try go_wp2)
          refine bodyPost_ret (results_ct rfl _ _ gb106 57 #[.int .i64 0, .int .i64 0] (0, 0) _ rfl (by (with_reducible repeat (first | refine blk_drewN ?_ _ | refine blk_drew ?_ | refine blk_alloc ?_ _)); refine blk_put (cs := #[.int .i64 0, .int .i64 0]) ?_ 1 _ rfl; (with_reducible repeat (first | refine blk_drewN ?_ _ | refine blk_drew ?_ | refine blk_alloc ?_ _)); refine blk_put (cs := #[.int .i64 0, .int .i64 0]) ?_ 0 _ rfl; (with_reducible repeat (first | refine blk_drewN ?_ _ | refine blk_drew ?_ | refine blk_alloc ?_ _)); exact BK106.out) Try.underlying57 rfl (by kernel_rfl)) rfl ?_
          exact ⟨by first | rfl | (simp [errW_none, errW_some] <;> rfl) | (simp [*, errW_none, errW_some] <;> rfl), by repeat (first | (with_reducible first | exact HB.out | apply below_alloc | apply pw_below_drewN | apply below_drew1 | refine below_set ?_ GE106.out) | exact HB.out)⟩
        · replace c9 := Bool.eq_false_iff.mpr c9
          subst c9
          have H1 : (if a0 = true then (some (wrap64 (-(wrap64 ((IntKind.u64.wrap (Int.tdiv a1 t107))))), wrap64 ((IntKind.u64.wrap (Int.tdiv a2 t107))), 0)) else (some (wrap64 ((IntKind.u64.wrap (Int.tdiv a1 t107))), wrap64 ((IntKind.u64.wrap (Int.tdiv a2 t107))), 0))) = some (r1, r2, r3) := by rw [if_neg (show ¬ (false = true) by decide)] at H; exact H
          clear H
          have H := H1
          clear H1
          by_cases c11 : a0 = true
          · subst c11
            have H1 : (some (wrap64 (-(wrap64 ((IntKind.u64.wrap (Int.tdiv a1 t107))))), wrap64 ((IntKind.u64.wrap (Int.tdiv a2 t107))), 0)) = some (r1, r2, r3) := by rw [if_pos rfl] at H; exact H
            clear H
            have H := H1
            clear H1
            simp only [Option.some.injEq, Prod.mk.injEq] at H
            obtain ⟨rfl, rfl, rfl⟩ := H
            have hcz12_0 : wc.cell? ⟨gb106, 0, none⟩ = some (.int .i64 0) := (blk_cell BK106.out 0).trans rfl
            have hcz12_1 : wc.cell? ⟨gb106, 1, none⟩ = some (.int .i64 0) := (blk_cell BK106.out 1).trans rfl
            have hfz12_0 := blk_frozen BK106.out 0
            have hfz12_1 := blk_frozen BK106.out 1
            go_wp2
            repeat (go_quiet (fail); try go_wp2)
            refine bodyPost_ret (results_ct rfl _ _ gb106 57 #[.int .i64 (wrap64 (-(wrap64 ((IntKind.u64.wrap (Int.tdiv a1 t107)))))), .int .i64 (wrap64 ((IntKind.u64.wrap (Int.tdiv a2 t107))))] (0, 0) _ rfl (by (with_reducible repeat (first | refine blk_drewN ?_ _ | refine blk_drew ?_ | refine blk_alloc ?_ _)); refine blk_put (cs := #[.int .i64 (wrap64 (-(wrap64 ((IntKind.u64.wrap (Int.tdiv a1 t107)))))), .int .i64 0]) ?_ 1 _ rfl; (with_reducible repeat (first | refine blk_drewN ?_ _ | refine blk_drew ?_ | refine blk_alloc ?_ _)); refine blk_put (cs := #[.int .i64 0, .int .i64 0]) ?_ 0 _ rfl; (with_reducible repeat (first | refine blk_drewN ?_ _ | refine blk_drew ?_ | refine blk_alloc ?_ _)); exact BK106.out) Try.underlying57 rfl (by kernel_rfl)) rfl ?_
            exact ⟨by first | rfl | (simp [errW_none, errW_some] <;> rfl) | (simp [*, errW_none, errW_some] <;> rfl), by repeat (first | (with_reducible first | exact HB.out | apply below_alloc | apply pw_below_drewN | apply below_drew1 | refine below_set ?_ GE106.out) | exact HB.out)⟩
          · replace c11 := Bool.eq_false_iff.mpr c11
            subst c11
            have H1 : (some (wrap64 ((IntKind.u64.wrap (Int.tdiv a1 t107))), wrap64 ((IntKind.u64.wrap (Int.tdiv a2 t107))), 0)) = some (r1, r2, r3) := by rw [if_neg (show ¬ (false = true) by decide)] at H; exact H
            clear H
            have H := H1
            clear H1
            simp only [Option.some.injEq, Prod.mk.injEq] at H
            obtain ⟨rfl, rfl, rfl⟩ := H
            have hcz13_0 : wc.cell? ⟨gb106, 0, none⟩ = some (.int .i64 0) := (blk_cell BK106.out 0).trans rfl
            have hcz13_1 : wc.cell? ⟨gb106, 1, none⟩ = some (.int .i64 0) := (blk_cell BK106.out 1).trans rfl
            have hfz13_0 := blk_frozen BK106.out 0
            have hfz13_1 := blk_frozen BK106.out 1
            go_wp2
            repeat (go_quiet (fail); try go_wp2)
            refine bodyPost_ret (results_ct rfl _ _ gb106 57 #[.int .i64 (wrap64 ((IntKind.u64.wrap (Int.tdiv a1 t107)))), .int .i64 (wrap64 ((IntKind.u64.wrap (Int.tdiv a2 t107))))] (0, 0) _ rfl (by (with_reducible repeat (first | refine blk_drewN ?_ _ | refine blk_drew ?_ | refine blk_alloc ?_ _)); refine blk_put (cs := #[.int .i64 (wrap64 ((IntKind.u64.wrap (Int.tdiv a1 t107)))), .int .i64 0]) ?_ 1 _ rfl; (with_reducible repeat (first | refine blk_drewN ?_ _ | refine blk_drew ?_ | refine blk_alloc ?_ _)); refine blk_put (cs := #[.int .i64 0, .int .i64 0]) ?_ 0 _ rfl; (with_reducible repeat (first | refine blk_drewN ?_ _ | refine blk_drew ?_ | refine blk_alloc ?_ _)); exact BK106.out) Try.underlying57 rfl (by kernel_rfl)) rfl ?_
            exact ⟨by first | rfl | (simp [errW_none, errW_some] <;> rfl) | (simp [*, errW_none, errW_some] <;> rfl), by repeat (first | (with_reducible first | exact HB.out | apply below_alloc | apply pw_below_drewN | apply below_drew1 | refine below_set ?_ GE106.out) | exact HB.out)⟩

/-! ### num_Make: function 70 -/
def num_Make.f (k : Nat) (a0 : Int) (a1 : Int) : Option (Int × Int × Int) := if a1 = 0 then (some (0, 0, 5)) else ((num_size.f a0).bind fun t109 => ((num_size.f a1).bind fun t110 => ((num_made.f k ((decide (a0 < 0)) != (decide (a1 < 0))) t109 t110).bind fun bt111 => (some (bt111.1, bt111.2.1, bt111.2.2)))))
theorem num_Make.mono : ∀ a0 a1 k, LeO (num_Make.f k a0 a1) (num_Make.f (k + 1) a0 a1) := by
  intro a0 a1 k
  unfold num_Make.f
  repeat' first
      | (with_reducible exact num_made.mono _ _ _ _)
      | (with_reducible exact LeO.refl _)
      | (with_reducible exact LeO.none _)
      | (with_reducible refine LeO.ite ?_ ?_)
      | (with_reducible refine LeO.bind ?_ (fun _ => ?_))
      | exact num_made.mono _ _ _ _
      | exact LeO.none _
      | refine LeO.ite ?_ ?_
      | refine LeO.bind ?_ (fun _ => ?_)
set_option maxHeartbeats 8000000 in
set_option maxRecDepth 100000 in
theorem num_Make.calls (k : Nat) (a0 : Int) (a1 : Int) (r1 : Int) (r2 : Int) (r3 : Int) (w : World) (h : num_Make.f k a0 a1 = some (r1, r2, r3)) :
    Calls Try.prog 70 #[.int .i64 a0, .int .i64 a1] w fun e w' => e = .returned (.tuple #[.agg #[.int .i64 r1, .int .i64 r2], .int .i64 r3]) ∧ Below w.heap.size w w' := by
  have hu57 := Try.underlying57
  have HB := Aside0.mk (Below.refl w.heap.size w)
  have H : (if a1 = 0 then (some (0, 0, 5)) else ((num_size.f a0).bind fun t109 => ((num_size.f a1).bind fun t110 => ((num_made.f k ((decide (a0 < 0)) != (decide (a1 < 0))) t109 t110).bind fun bt111 => (some (bt111.1, bt111.2.1, bt111.2.2)))))) = some (r1, r2, r3) := h
  clear h
  by_cases c3 : a1 = 0
  · rw [if_pos c3] at H
    have c3b0 : (a1 == 0) = true := beq_iff_eq.mpr c3
    have c3b1 : (a1 != 0) = false := bne_eq_false_iff_eq.mpr c3
    clear c3
    simp only [Option.some.injEq, Prod.mk.injEq] at H
    obtain ⟨rfl, rfl, rfl⟩ := H
    go_enter Try.func70, Try.ntmps70
    go_wp2_with (first | ((with_reducible refine gate_dst (N := 4) rfl ?_); refine box_event ?hg (N := 4) ?hd (cs := #[.int .i64 0, .int .i64 0]) (t := 57) ?hr ?_; (case hd => rfl); (case hg => rfl); (case hr => first | (go_simp; done) | (go_simp; rfl)); intro gb108 hg w4 hbox hb; have n0_ := Aside0.mk (below_step (by repeat (first | (with_reducible first | exact HB.out | apply below_alloc | apply pw_below_drewN | apply below_drew1) | exact HB.out)) hb); have n1_ := Aside0.mk (hbox); have n2_ := Aside0.mk ((by rw [hg]; exact (below_size (by repeat (first | (with_reducible first | exact HB.out | apply below_alloc | apply pw_below_drewN | apply below_drew1) | exact HB.out))) : w.heap.size ≤ gb108)); have n3_ := Aside0.mk ((by rw [hg]; exact (below_size (by repeat (first | (with_reducible first | exact HB.out | apply below_alloc | apply pw_below_drewN | apply below_drew1) | exact HB.out))) : w.heap.size ≤ gb108)); clear HB; have HB := n0_; have BK108 := n1_; have GW108 := n2_; have GE108 := n3_; clear n0_ n1_ n2_ n3_; clear hb hbox hg; have hcz5_0 : w4.cell? ⟨gb108, 0, none⟩ = some (.int .i64 0) := (blk_cell BK108.out 0).trans rfl; have hcz5_1 : w4.cell? ⟨gb108, 1, none⟩ = some (.int .i64 0) := (blk_cell BK108.out 1).trans rfl; have hfz5_0 := blk_frozen BK108.out 0; have hfz5_1 := blk_frozen BK108.out 1))
    refine bodyPost_ret (results_ct rfl _ _ gb108 57 #[.int .i64 0, .int .i64 0] (0, 0) _ rfl (by (with_reducible repeat (first | refine blk_drewN ?_ _ | refine blk_drew ?_ | refine blk_alloc ?_ _)); refine blk_put (cs := #[.int .i64 0, .int .i64 0]) ?_ 1 _ rfl; (with_reducible repeat (first | refine blk_drewN ?_ _ | refine blk_drew ?_ | refine blk_alloc ?_ _)); refine blk_put (cs := #[.int .i64 0, .int .i64 0]) ?_ 0 _ rfl; (with_reducible repeat (first | refine blk_drewN ?_ _ | refine blk_drew ?_ | refine blk_alloc ?_ _)); exact BK108.out) Try.underlying57 rfl (by kernel_rfl)) rfl ?_
    exact ⟨by first | rfl | (simp [errW_none, errW_some] <;> rfl) | (simp [*, errW_none, errW_some] <;> rfl), by repeat (first | (with_reducible first | exact HB.out | apply below_alloc | apply pw_below_drewN | apply below_drew1 | refine below_set ?_ GE108.out) | exact HB.out)⟩
  · rw [if_neg c3] at H
    have c3b0 : (a1 == 0) = false := beq_eq_false_iff_ne.mpr c3
    have c3b1 : (a1 != 0) = true := bne_iff_ne.mpr c3
    replace H := Option.bind_eq_some_iff.mp H
    obtain ⟨t109, A60, H⟩ := H
    replace H : ((num_size.f a1).bind fun t110 => ((num_made.f k ((decide (a0 < 0)) != (decide (a1 < 0))) t109 t110).bind fun bt111 => (some (bt111.1, bt111.2.1, bt111.2.2)))) = some (r1, r2, r3) := H
    have A6 := Aside0.mk A60
    clear A60
    replace H := Option.bind_eq_some_iff.mp H
    obtain ⟨t110, A70, H⟩ := H
    replace H : ((num_made.f k ((decide (a0 < 0)) != (decide (a1 < 0))) t109 t110).bind fun bt111 => (some (bt111.1, bt111.2.1, bt111.2.2))) = some (r1, r2, r3) := H
    have A7 := Aside0.mk A70
    clear A70
    replace H := Option.bind_eq_some_iff.mp H
    obtain ⟨⟨t111, t112, t113⟩, A80, H⟩ := H
    replace H : (some (t111, t112, t113)) = some (r1, r2, r3) := H
    have A8 := Aside0.mk A80
    clear A80
    simp only [Option.some.injEq, Prod.mk.injEq] at H
    obtain ⟨rfl, rfl, rfl⟩ := H
    go_enter Try.func70, Try.ntmps70
    go_wp2_with (first | ((with_reducible refine gate_dst (N := 4) rfl ?_); refine box_event ?hg (N := 4) ?hd (cs := #[.int .i64 0, .int .i64 0]) (t := 57) ?hr ?_; (case hd => rfl); (case hg => rfl); (case hr => first | (go_simp; done) | (go_simp; rfl)); intro gb108 hg w9 hbox hb; have n0_ := Aside0.mk (below_step (by repeat (first | (with_reducible first | exact HB.out | apply below_alloc | apply pw_below_drewN | apply below_drew1) | exact HB.out)) hb); have n1_ := Aside0.mk (hbox); have n2_ := Aside0.mk ((by rw [hg]; exact (below_size (by repeat (first | (with_reducible first | exact HB.out | apply below_alloc | apply pw_below_drewN | apply below_drew1) | exact HB.out))) : w.heap.size ≤ gb108)); have n3_ := Aside0.mk ((by rw [hg]; exact (below_size (by repeat (first | (with_reducible first | exact HB.out | apply below_alloc | apply pw_below_drewN | apply below_drew1) | exact HB.out))) : w.heap.size ≤ gb108)); clear HB; have HB := n0_; have BK108 := n1_; have GW108 := n2_; have GE108 := n3_; clear n0_ n1_ n2_ n3_; clear hb hbox hg) | ((with_reducible refine gate_callee (f := 108) rfl ?_); refine goesL_ (some 15) rfl rfl Try.func108 (by kernel_rfl) rfl #[.int .i64 a0] rfl (by (try simp only [List.map_toArray, List.map_cons, List.map_nil]); first | done | rfl | (simp only [List.length_drop, List.length_take]; rfl)) ?_; (with_reducible refine (num_size.calls a0 t109 _ A6.out).mono ?_); rintro e w' ⟨rfl, ⟨nd, rfl⟩⟩; refine ⟨_, rfl, ?_⟩; (try (rw [drewN_self w9]; generalize hq_ : World.drewN w9 _ = w9; have n0_ : Aside0 (w9.heap[gb108]? = some (.cells #[.int .i64 0, .int .i64 0] 57 (0, 0))) := ⟨by rw [← hq_]; exact (by (with_reducible repeat (first | refine blk_drewN ?_ _ | refine blk_drew ?_ | refine blk_alloc ?_ _)); exact BK108.out)⟩; have n1_ : Aside0 (Below w.heap.size w w9) := ⟨by rw [← hq_]; exact (by repeat (first | (with_reducible first | exact HB.out | apply below_alloc | apply pw_below_drewN | apply below_drew1 | refine below_set ?_ GE108.out) | exact HB.out))⟩; clear BK108 HB hq_; have BK108 := n0_; have HB := n1_; clear n0_ n1_))) | ((with_reducible refine gate_callee (f := 108) rfl ?_); refine goesL_ (some 17) rfl rfl Try.func108 (by kernel_rfl) rfl #[.int .i64 a1] rfl (by (try simp only [List.map_toArray, List.map_cons, List.map_nil]); first | done | rfl | (simp only [List.length_drop, List.length_take]; rfl)) ?_; (with_reducible refine (num_size.calls a1 t110 _ A7.out).mono ?_); rintro e w' ⟨rfl, ⟨nd, rfl⟩⟩; refine ⟨_, rfl, ?_⟩; (try (rw [drewN_self w9]; generalize hq_ : World.drewN w9 _ = w9; have n0_ : Aside0 (w9.heap[gb108]? = some (.cells #[.int .i64 0, .int .i64 0] 57 (0, 0))) := ⟨by rw [← hq_]; exact (by (with_reducible repeat (first | refine blk_drewN ?_ _ | refine blk_drew ?_ | refine blk_alloc ?_ _)); exact BK108.out)⟩; have n1_ : Aside0 (Below w.heap.size w w9) := ⟨by rw [← hq_]; exact (by repeat (first | (with_reducible first | exact HB.out | apply below_alloc | apply pw_below_drewN | apply below_drew1 | refine below_set ?_ GE108.out) | exact HB.out))⟩; clear BK108 HB hq_; have BK108 := n0_; have HB := n1_; clear n0_ n1_))) | ((with_reducible refine gate_callee (f := 107) rfl ?_); refine goesL_ (some 18) rfl rfl Try.func107 (by kernel_rfl) rfl #[.bool ((decide (a0 < 0)) != (decide (a1 < 0))), .int .u64 t109, .int .u64 t110] rfl (by (try simp only [List.map_toArray, List.map_cons, List.map_nil]); first | done | rfl | (simp only [List.length_drop, List.length_take]; rfl)) ?_; (with_reducible refine (num_made.calls k ((decide (a0 < 0)) != (decide (a1 < 0))) t109 t110 t111 t112 t113 _ A8.out).mono ?_); rintro e w10 ⟨rfl, hb⟩; refine ⟨_, rfl, ?_⟩; have n0_ := Aside0.mk (blk_below (g := gb108) (o := .cells #[.int .i64 0, .int .i64 0] 57 (0, 0)) (by (with_reducible repeat (first | refine blk_drewN ?_ _ | refine blk_drew ?_ | refine blk_alloc ?_ _)); exact BK108.out) hb); have n1_ := Aside0.mk (below_step (by repeat (first | (with_reducible first | exact HB.out | apply below_alloc | apply pw_below_drewN | apply below_drew1 | refine below_set ?_ GE108.out) | exact HB.out)) hb); clear BK108; clear HB; have BK108 := n0_; have HB := n1_; clear n0_ n1_; (try clear hb); (try clear hb2); (try clear hk); (try clear hi); have hcz11_0 : w10.cell? ⟨gb108, 0, none⟩ = some (.int .i64 0) := (blk_cell BK108.out 0).trans rfl; have hcz11_1 : w10.cell? ⟨gb108, 1, none⟩ = some (.int .i64 0) := (blk_cell BK108.out 1).trans rfl; have hfz11_0 := blk_frozen BK108.out 0; have hfz11_1 := blk_frozen BK108.out 1))
    refine bodyPost_ret (results_ct rfl _ _ gb108 57 #[.int .i64 t111, .int .i64 t112] (0, 0) _ rfl (by (with_reducible repeat (first | refine blk_drewN ?_ _ | refine blk_drew ?_ | refine blk_alloc ?_ _)); refine blk_put (cs := #[.int .i64 t111, .int .i64 0]) ?_ 1 _ rfl; (with_reducible repeat (first | refine blk_drewN ?_ _ | refine blk_drew ?_ | refine blk_alloc ?_ _)); refine blk_put (cs := #[.int .i64 0, .int .i64 0]) ?_ 0 _ rfl; (with_reducible repeat (first | refine blk_drewN ?_ _ | refine blk_drew ?_ | refine blk_alloc ?_ _)); exact BK108.out) Try.underlying57 rfl (by kernel_rfl)) rfl ?_
    exact ⟨by first | rfl | (simp [errW_none, errW_some] <;> rfl) | (simp [*, errW_none, errW_some] <;> rfl), by repeat (first | (with_reducible first | exact HB.out | apply below_alloc | apply pw_below_drewN | apply below_drew1 | refine below_set ?_ GE108.out) | exact HB.out)⟩

end Go.Proofs.Ythkfahkkcjagdaa.PClassingQuantiles
namespace Go.Proofs.Ythkfahkkcjagdaa
open PClassingQuantiles Go.RowKit Go.Proofs.YthkfahkkcjagdaaW.PrintWords Go.Proofs.YthkfahkkcjagdaaW.PrintMore Go.Proofs.YthkfahkkcjagdaaW.PrintLast

namespace Q
theorem u64_id {n : Int} (h0 : 0 ≤ n) (h1 : n ≤ 18446744073709551615) : IntKind.u64.wrap n = n := IntWalk.u64_in n ⟨h0, h1⟩
theorem wrap_id {x : Int} (h0 : -9223372036854775808 ≤ x) (h1 : x ≤ 9223372036854775807) : wrap64 x = x := by unfold wrap64; omega
theorem gcdI_ev : ∀ (b a : Nat), Ev (fun k => num_gcd.l0 k (a : Int) (b : Int)) ((Nat.gcd a b : Nat) : Int) := by
  intro b
  induction b using Nat.strongRecOn with
  | _ b ih =>
    intro a
    by_cases h0 : b = 0
    · subst h0
      rw [Nat.gcd_zero_right]
      exact Ev.step (f := fun _ => some (a : Int)) (fun k => by simp only [num_gcd.l0]; rw [if_pos (by omega)]) (Ev.now _)
    · have hpos : 0 < b := by omega
      have h1 := ih (a % b) (Nat.mod_lt _ hpos) b
      have e : Nat.gcd a b = Nat.gcd b (a % b) := by rw [Nat.gcd_comm a b, Nat.gcd_rec b a, Nat.gcd_comm]
      rw [e]
      refine Ev.step (f := fun k => num_gcd.l0 k (b : Int) ((a % b : Nat) : Int)) (fun k => ?_) h1
      simp only [num_gcd.l0]
      rw [if_neg (by omega)]
      rfl
theorem made_ev {a b : Nat} (h0 : 0 < b) (ha : (a : Int) ≤ 1048576) (hb : (b : Int) ≤ 1048576) : Ev (fun k => num_made.f k false (a : Int) (b : Int)) (((a / Nat.gcd a b : Nat) : Int), ((b / Nat.gcd a b : Nat) : Int), 0) := by
  have hg := Nat.gcd_pos_of_pos_right a h0
  have h1 := gcdI_ev b a
  generalize Nat.gcd a b = g at *
  have q1 : a / g ≤ a := Nat.div_le_self _ _
  have q2 : b / g ≤ b := Nat.div_le_self _ _
  have e1 : Int.tdiv (a : Int) (g : Int) = ((a / g : Nat) : Int) := rfl
  have e2 : Int.tdiv (b : Int) (g : Int) = ((b / g : Nat) : Int) := rfl
  generalize a / g = p at *
  generalize b / g = q at *
  refine Ev.bind h1 (Ev.congr (f := fun k => num_made.j0 k false (p : Int) (q : Int) false) (fun k => ?_) ?_)
  · rw [if_neg (by omega), e1, e2, u64_id (n := (p : Int)) (by omega) (by omega), u64_id (n := (q : Int)) (by omega) (by omega), if_neg (by omega), decide_eq_false (by omega)]
  · refine Ev.step (f := fun _ => some ((p : Int), (q : Int), 0)) (fun k => ?_) (Ev.now _)
    simp only [num_made.j0]
    rw [if_neg (by decide), if_neg (by decide), wrap_id (x := (p : Int)) (by omega) (by omega), wrap_id (x := (q : Int)) (by omega) (by omega)]
theorem make_ev {a b : Nat} (h0 : 0 < b) (ha : (a : Int) ≤ 1048576) (hb : (b : Int) ≤ 1048576) : Ev (fun k => num_Make.f k (a : Int) (b : Int)) (((a / Nat.gcd a b : Nat) : Int), ((b / Nat.gcd a b : Nat) : Int), 0) := by
  refine Ev.congr (f := fun k => (num_made.f k false (a : Int) (b : Int)).bind fun bt => some (bt.1, bt.2.1, bt.2.2)) (fun k => ?_) (Ev.bind (made_ev h0 ha hb) (Ev.now _))
  unfold num_Make.f num_size.f
  rw [if_neg (by omega), if_neg (by omega), if_neg (by omega), u64_id (n := (a : Int)) (by omega) (by omega), u64_id (n := (b : Int)) (by omega) (by omega), decide_eq_false (by omega), decide_eq_false (by omega)]
  rfl
end Q
theorem makeq_any (w : World) {a b : Nat} (h0 : 0 < b) (ha : (a : Int) ≤ 1048576) (hb : (b : Int) ≤ 1048576) : Calls Try.prog 70 #[.int .i64 a, .int .i64 b] w fun e w' => e = .returned (.tuple #[.agg #[.int .i64 ((a / Nat.gcd a b : Nat) : Int), .int .i64 ((b / Nat.gcd a b : Nat) : Int)], .int .i64 0]) ∧ Below w.heap.size w w' := by
  obtain ⟨k, hk⟩ := (Q.make_ev h0 ha hb).rounds
  exact num_Make.calls k _ _ _ _ _ w hk
def bN (s : Sb) : Int := (((woolS s).toNat / Nat.gcd (woolS s).toNat s.raw.toNat : Nat) : Int)
def bD (s : Sb) : Int := ((s.raw.toNat / Nat.gcd (woolS s).toNat s.raw.toNat : Nat) : Int)
theorem base_red {s : Sb} (h : SbOK s) : ∃ g : Int, 1 ≤ g ∧ woolS s = bN s * g ∧ s.raw = bD s * g ∧ 0 ≤ bN s ∧ bN s ≤ 10000 ∧ 1 ≤ bD s ∧ bD s ≤ 10000 := by
  have hw := woolS_bd h
  have hr := h.r1
  have hr2 := h.r2
  unfold bN bD
  generalize woolS s = y at *
  generalize s.raw = r at *
  obtain ⟨a, rfl⟩ : ∃ a : Nat, y = a := ⟨y.toNat, by omega⟩
  obtain ⟨b, rfl⟩ : ∃ b : Nat, r = b := ⟨r.toNat, by omega⟩
  rw [Int.toNat_natCast, Int.toNat_natCast]
  have hg : 0 < Nat.gcd a b := Nat.gcd_pos_of_pos_right _ (by omega)
  have h1 := Nat.div_mul_cancel (Nat.gcd_dvd_left a b)
  have h2 := Nat.div_mul_cancel (Nat.gcd_dvd_right a b)
  have h3 := Nat.div_le_self a (Nat.gcd a b)
  have h4 := Nat.div_le_self b (Nat.gcd a b)
  have h5 : 0 < b / Nat.gcd a b := Nat.div_pos (Nat.le_of_dvd (by omega) (Nat.gcd_dvd_right a b)) hg
  generalize a / Nat.gcd a b = p at *
  generalize b / Nat.gcd a b = q at *
  generalize Nat.gcd a b = g at *
  refine ⟨(g : Int), by omega, ?_, ?_, by omega, by omega, by omega, by omega⟩
  · rw [← h1]; push_cast; rfl
  · rw [← h2]; push_cast; rfl
def KB (w5 : World) (b1 : Nat) (W : World) : Prop := Kp (fun k => k = b1) w5 W ∧ ∃ u v, Blk W b1 [u, v] 57
theorem KB.drew {w5 W : World} {b1 : Nat} (h : KB w5 b1 W) : KB w5 b1 W.drew := ⟨h.1.drew, h.2⟩
theorem KB.below {w5 W W' : World} {b1 : Nat} (h : KB w5 b1 W) (k : Below W.heap.size W W') : KB w5 b1 W' := ⟨h.1.then_below k, h.2.imp fun u hu => hu.imp fun v hv => hv.below k⟩
theorem KB.set {w5 W : World} {b1 : Nat} (h : KB w5 b1 W) (j : Nat) (x : Value) : KB w5 b1 (W.setCell ⟨b1, j, none⟩ x) := ⟨h.1.setCell (fun _ => rfl) x, by
  obtain ⟨u, v, hb⟩ := h.2
  have := hb.set j x
  match j with
  | 0 => exact ⟨_, _, this⟩
  | 1 => exact ⟨_, _, this⟩
  | _ + 2 => exact ⟨_, _, this⟩⟩
theorem hkB {w5 W : World} {b1 : Nat} {P : Prop} (h : Aside0 (KB w5 b1 W) ∧ P) : KB w5 b1 W := h.1.out
set_option maxHeartbeats 4000000 in
theorem baseS_any (w : World) {s : Sb} (h : SbOK s) : Calls Try.prog 29 #[.agg #[.int .i64 s.raw, .int .i64 s.dry, .int .i64 s.ash, .int .i64 s.gre, .int .i64 s.veg]] w fun e w' => e = .returned (.tuple #[.agg #[.int .i64 (bN s), .int .i64 (bD s)], .int .i64 0]) ∧ Below w.heap.size w w' := by
  have q := Blk.new w [.int .i64 s.raw, .int .i64 s.dry, .int .i64 s.ash, .int .i64 s.gre, .int .i64 s.veg] 55
  obtain ⟨w2, hw2⟩ : ∃ z, z = (w.alloc (.cells #[.int .i64 s.raw, .int .i64 s.dry, .int .i64 s.ash, .int .i64 s.gre, .int .i64 s.veg] 55)).alloc (.cells #[.int .i64 0, .int .i64 0] 57) := ⟨_, rfl⟩
  have HW := Aside0.mk hw2
  have q2 := q.alloc (.cells #[.int .i64 0, .int .i64 0] 57)
  have HB : Aside0 (Below w.heap.size w w2) := ⟨by rw [hw2]; exact below_alloc (below_alloc (Below.refl _ _) _) _⟩
  have qz : Blk w2 (w.heap.size + 1) [.int .i64 0, .int .i64 0] 57 := by
    have h := Blk.new (w.alloc (.cells #[.int .i64 s.raw, .int .i64 s.dry, .int .i64 s.ash, .int .i64 s.gre, .int .i64 s.veg] 55)) [.int .i64 0, .int .i64 0] 57
    rw [show (w.alloc (.cells #[.int .i64 s.raw, .int .i64 s.dry, .int .i64 s.ash, .int .i64 s.gre, .int .i64 s.veg] 55)).heap.size = w.heap.size + 1 by simp] at h
    rw [hw2]
    exact h
  rw [← hw2] at q2
  have HSU := Aside0.mk (sub_any w2 s)
  rw [sbB_yes h] at HSU
  have HWO := Aside0.mk (fun W => wool_any W h)
  have hwb := woolS_bd h
  have hr1 := h.r1
  have hr2 := h.r2
  have HMK := Aside0.mk (fun W => makeq_any W (a := (woolS s).toNat) (b := s.raw.toNat) (by omega) (by omega) (by omega))
  rw [show (((woolS s).toNat : Nat) : Int) = woolS s by omega, show ((s.raw.toNat : Nat) : Int) = s.raw by omega] at HMK
  obtain ⟨N, hN⟩ : ∃ z, z = bN s := ⟨_, rfl⟩
  obtain ⟨D, hD⟩ : ∃ z, z = bD s := ⟨_, rfl⟩
  rw [show (((woolS s).toNat / Nat.gcd (woolS s).toNat s.raw.toNat : Nat) : Int) = N from hN.symm, show ((s.raw.toNat / Nat.gcd (woolS s).toNat s.raw.toNat : Nat) : Int) = D from hD.symm] at HMK
  rw [← hN, ← hD]
  obtain ⟨y, hy⟩ : ∃ z, z = woolS s := ⟨_, rfl⟩
  rw [← hy] at HWO HMK
  clear q hw2 hN hD hy hwb hr1 hr2 h
  obtain ⟨qr, qd, qa, qg, qv⟩ := s
  dsimp only at HSU HWO HMK q2 HW ⊢
  go_enter Try.func29, Try.ntmps29
  go_upto_region 1 with fail
  rw [← HW.out]
  obtain ⟨b0, hb0⟩ : ∃ z, z = w.heap.size := ⟨_, rfl⟩
  obtain ⟨b1, hb1⟩ : ∃ z, z = b0 + 1 := ⟨_, rfl⟩
  rw [← hb0] at q2 qz ⊢
  rw [← hb1] at qz ⊢
  have HBB : Aside0 (b0 = w.heap.size ∧ b1 = b0 + 1) := ⟨hb0, hb1⟩
  have HQ := Aside0.mk (And.intro q2 qz)
  have s0 := q2.at_ (i := 0) rfl
  have s1 := q2.at_ (i := 1) rfl
  have s2 := q2.at_ (i := 2) rfl
  have s3 := q2.at_ (i := 3) rfl
  have s4 := q2.at_ (i := 4) rfl
  clear hb0 hb1 HW qz q2
  go_upto_region 3 with ((with_reducible refine HSU.out.mono ?_); rintro e5 w5 ⟨rfl, hb5⟩; have H5 := Aside0.mk (And.intro hb5 (And.intro (HQ.out.1.below hb5) (HQ.out.2.below hb5))); clear hb5)
  clear s0 s1 s2 s3 s4
  have HS3 := Aside0.mk (fun (W : World) (hW : KB w5 b1 W) => (⟨⟨hW⟩, (H5.out.2.1.kp hW.1 (by have := HBB.out; omega)).at_ (i := 0) rfl, (H5.out.2.1.kp hW.1 (by have := HBB.out; omega)).at_ (i := 1) rfl, (H5.out.2.1.kp hW.1 (by have := HBB.out; omega)).at_ (i := 2) rfl, (H5.out.2.1.kp hW.1 (by have := HBB.out; omega)).at_ (i := 3) rfl, (H5.out.2.1.kp hW.1 (by have := HBB.out; omega)).at_ (i := 4) rfl⟩ : Aside0 (KB w5 b1 W) ∧ W.cell? ⟨b0, 0, none⟩ = some (.int .i64 qr) ∧ W.cell? ⟨b0, 1, none⟩ = some (.int .i64 qd) ∧ W.cell? ⟨b0, 2, none⟩ = some (.int .i64 qa) ∧ W.cell? ⟨b0, 3, none⟩ = some (.int .i64 qg) ∧ W.cell? ⟨b0, 4, none⟩ = some (.int .i64 qv)))
  have HK5 : Aside0 (KB w5 b1 w5) := ⟨Kp.refl _ _, _, _, H5.out.2.2⟩
  go_cut [3] from 8 to 14 (fun a W => a = .int .i64 0 ∧ Aside0 (Blk W b1 [.int .i64 N, .int .i64 D] 57 ∧ KB w5 b1 W))
  case first =>
    go_region_held3 (fun W => Aside0 (KB w5 b1 W) ∧ W.cell? ⟨b0, 0, none⟩ = some (.int .i64 qr) ∧ W.cell? ⟨b0, 1, none⟩ = some (.int .i64 qd) ∧ W.cell? ⟨b0, 2, none⟩ = some (.int .i64 qa) ∧ W.cell? ⟨b0, 3, none⟩ = some (.int .i64 qg) ∧ W.cell? ⟨b0, 4, none⟩ = some (.int .i64 qv))
      ((refine HS3.out _ ?_; repeat (with_reducible (first | exact HK5.out | exact HB7.out | exact HB8.out | refine KB.drew ?_ | refine KB.set ?_ _ _))))
      (first
        | ((with_reducible refine (HWO.out _).mono ?_); rintro e7 w7 ⟨rfl, hb7⟩; have HB7 := Aside0.mk ((hkB (by assumption)).below hb7); clear hb7)
        | ((with_reducible refine (HMK.out _).mono ?_); rintro e8 w8 ⟨rfl, hb8⟩; have HB8 := Aside0.mk ((hkB (by assumption)).below hb8); obtain ⟨z0v, z1v, hz8⟩ := HB8.out.2; have HZ8 := Aside0.mk hz8; have z0 := hz8.at_ (i := 0) rfl; have z1 := hz8.at_ (i := 1) rfl; have zf := hz8.free; clear hz8 hb8))
    all_goals go_wp2_with fail
    all_goals go_meet
    all_goals (case rel => exact ⟨rfl, ⟨(HZ8.out.set 0 _).set 1 _, (HB8.out.set 0 _).set 1 _⟩⟩)
  case rest =>
  obtain ⟨rfl, HC⟩ := hcut
  have r0 := HC.out.1.at_ (i := 0) rfl
  have r1 := HC.out.1.at_ (i := 1) rfl
  go_wp2_with fail
  refine bodyPost_ret (v := .tuple #[.agg #[.int .i64 N, .int .i64 D], .int .i64 0]) (by simp [results, Try.results29, go_sem, r0, r1]) rfl ?_
  exact ⟨rfl, ((Kp.of_below (below_step HB.out H5.out.1) : Kp (fun k => k = b1) w w5).step HC.out.2.1).below_of (fun k hk => by have := HBB.out; omega)⟩
end Go.Proofs.Ythkfahkkcjagdaa
namespace Go.Proofs.Ythkfahkkcjagdaa
open Go.RowKit Go.Proofs.YthkfahkkcjagdaaW.PrintWords Go.Proofs.YthkfahkkcjagdaaW.PrintMore Go.Proofs.YthkfahkkcjagdaaW.PrintLast
set_option linter.unusedSimpArgs false
set_option linter.unusedVariables false

/-- Two subsamples agree. -/
def nearP (s t : Sb) (tol : Int) : Prop := gapN s t * 10000 ≤ tol * (s.raw * t.raw) ∧ gapN t s * 10000 ≤ tol * (s.raw * t.raw)
theorem le_mul_right_iff {a b c : Int} (h : 1 ≤ c) : a * c ≤ b * c ↔ a ≤ b := ⟨fun k => Int.le_of_mul_le_mul_right k (by omega), fun k => Int.mul_le_mul_of_nonneg_right k (by omega)⟩
theorem near_eq {s t : Sb} (hs : SbOK s) (ht : SbOK t) (tol : Int) : ((bN s * bD t - bN t * bD s) * 10000 ≤ tol * bD s * bD t ∧ -(bN s * bD t - bN t * bD s) * 10000 ≤ tol * bD s * bD t) ↔ nearP s t tol := by
  obtain ⟨g, g1, e1, e2, _⟩ := base_red hs
  obtain ⟨k, k1, f1, f2, _⟩ := base_red ht
  unfold nearP gapN
  rw [e1, e2, f1, f2]
  generalize bN s = a
  generalize bD s = b
  generalize bN t = c
  generalize bD t = d
  have hp : 1 ≤ g * k := Int.le_trans (by omega) (Int.mul_le_mul g1 k1 (by omega) (by omega))
  have x1 : (c * k * (b * g) - a * g * (d * k)) * 10000 = (-(a * d - c * b) * 10000) * (g * k) := by grind
  have x2 : (a * g * (d * k) - c * k * (b * g)) * 10000 = ((a * d - c * b) * 10000) * (g * k) := by grind
  have x3 : tol * (b * g * (d * k)) = (tol * b * d) * (g * k) := by grind
  rw [x1, x2, x3, le_mul_right_iff hp, le_mul_right_iff hp]
  exact And.comm
theorem nd_bd {a b c d : Int} (h1 : 0 ≤ a ∧ a ≤ 10000) (h2 : 0 ≤ b ∧ b ≤ 10000) (h3 : 0 ≤ c ∧ c ≤ 10000) (h4 : 0 ≤ d ∧ d ≤ 10000) : -100000000 ≤ a * b - c * d ∧ a * b - c * d ≤ 100000000 := by
  have := prod_bd h1.1 h1.2 h2.1 h2.2
  have := prod_bd h3.1 h3.2 h4.1 h4.2
  omega
set_option maxHeartbeats 4000000 in
theorem near_any (w : World) {s t : Sb} (hs : SbOK s) (ht : SbOK t) (tol : Int) (hl : 0 ≤ tol ∧ tol ≤ 10000) : Calls Try.prog 60 #[.agg #[.int .i64 s.raw, .int .i64 s.dry, .int .i64 s.ash, .int .i64 s.gre, .int .i64 s.veg], .agg #[.int .i64 t.raw, .int .i64 t.dry, .int .i64 t.ash, .int .i64 t.gre, .int .i64 t.veg], .int .i64 tol] w fun e w' => (∃ b, e = .returned (.bool b) ∧ (b = true ↔ nearP s t tol)) ∧ Below w.heap.size w w' := by
  have q := Blk.new w [.int .i64 s.raw, .int .i64 s.dry, .int .i64 s.ash, .int .i64 s.gre, .int .i64 s.veg] 55
  obtain ⟨w2, hw2⟩ : ∃ z, z = (w.alloc (.cells #[.int .i64 s.raw, .int .i64 s.dry, .int .i64 s.ash, .int .i64 s.gre, .int .i64 s.veg] 55)).alloc (.cells #[.int .i64 t.raw, .int .i64 t.dry, .int .i64 t.ash, .int .i64 t.gre, .int .i64 t.veg] 55) := ⟨_, rfl⟩
  have HW := Aside0.mk hw2
  have q2 := q.alloc (.cells #[.int .i64 t.raw, .int .i64 t.dry, .int .i64 t.ash, .int .i64 t.gre, .int .i64 t.veg] 55)
  have HB : Aside0 (Below w.heap.size w w2) := ⟨by rw [hw2]; exact below_alloc (below_alloc (Below.refl _ _) _) _⟩
  have qz : Blk w2 (w.heap.size + 1) [.int .i64 t.raw, .int .i64 t.dry, .int .i64 t.ash, .int .i64 t.gre, .int .i64 t.veg] 55 := by
    have h := Blk.new (w.alloc (.cells #[.int .i64 s.raw, .int .i64 s.dry, .int .i64 s.ash, .int .i64 s.gre, .int .i64 s.veg] 55)) [.int .i64 t.raw, .int .i64 t.dry, .int .i64 t.ash, .int .i64 t.gre, .int .i64 t.veg] 55
    rw [show (w.alloc (.cells #[.int .i64 s.raw, .int .i64 s.dry, .int .i64 s.ash, .int .i64 s.gre, .int .i64 s.veg] 55)).heap.size = w.heap.size + 1 by simp] at h
    rw [hw2]
    exact h
  rw [← hw2] at q2
  have HS := Aside0.mk (fun W => baseS_any W hs)
  have HT := Aside0.mk (fun W => baseS_any W ht)
  obtain ⟨g, g1, -, -, a1, a2, b1, b2⟩ := base_red hs
  obtain ⟨k, k1, -, -, c1, c2, d1, d2⟩ := base_red ht
  have HNQ := Aside0.mk (near_eq hs ht tol)
  generalize bN s = a at *
  generalize bD s = b at *
  generalize bN t = c at *
  generalize bD t = d at *
  have hnb := nd_bd ⟨a1, a2⟩ ⟨(by omega : 0 ≤ d), d2⟩ ⟨c1, c2⟩ ⟨(by omega : 0 ≤ b), b2⟩
  obtain ⟨R, hR⟩ : ∃ R, R = nearP s t tol := ⟨_, rfl⟩
  rw [← hR] at HNQ ⊢
  obtain ⟨l1, l2⟩ := hl
  have p1 := prod_bd a1 a2 (by omega : 0 ≤ d) d2
  have p2 := prod_bd c1 c2 (by omega : 0 ≤ b) b2
  have p3 := prod_bd l1 l2 (by omega : 0 ≤ b) b2
  have p4 := mulT_bd (by omega : 0 ≤ d) d2 p3.1 p3.2
  rw [Int.mul_comm d] at p4
  have k1 : IntKind.i64.wrap (a * d) = a * d := IntWalk.i64_in _ (by omega)
  have k2 : IntKind.i64.wrap (c * b) = c * b := IntWalk.i64_in _ (by omega)
  have k3 : IntKind.i64.wrap (a * d - c * b) = a * d - c * b := IntWalk.i64_in _ (by omega)
  have k4 : IntKind.i64.wrap (tol * b) = tol * b := IntWalk.i64_in _ (by omega)
  have k5 : IntKind.i64.wrap (tol * b * d) = tol * b * d := IntWalk.i64_in _ (by omega)
  have k6 : IntKind.i64.wrap (-(a * d - c * b)) = -(a * d - c * b) := IntWalk.i64_in _ (by omega)
  have HYB := Aside0.mk p4
  clear q hw2 hs ht g1 hR a1 a2 b1 b2 c1 c2 d1 d2 l1 l2 p1 p2 p3 p4
  obtain ⟨sr, sd, sa, sg, sv⟩ := s
  obtain ⟨tr, td, ta, tg, tv⟩ := t
  dsimp only at HS HT q2 qz HW ⊢
  go_enter Try.func60, Try.ntmps60
  go_upto_region 1 with fail
  rw [← HW.out]
  obtain ⟨b0, hb0⟩ : ∃ z, z = w.heap.size := ⟨_, rfl⟩
  obtain ⟨b1, hb1⟩ : ∃ z, z = b0 + 1 := ⟨_, rfl⟩
  rw [← hb0] at q2 qz ⊢
  rw [← hb1] at qz ⊢
  have HBB : Aside0 (b0 = w.heap.size) := ⟨hb0⟩
  have HQ := Aside0.mk (And.intro q2 qz)
  have s0 := q2.at_ (i := 0) rfl
  have s1 := q2.at_ (i := 1) rfl
  have s2 := q2.at_ (i := 2) rfl
  have s3 := q2.at_ (i := 3) rfl
  have s4 := q2.at_ (i := 4) rfl
  clear hb0 hb1 HW qz q2
  go_upto_region 2 with ((with_reducible refine (HS.out _).mono ?_); rintro e5 w5 ⟨rfl, hb5⟩; have H5 := Aside0.mk hb5; clear hb5)
  clear s0 s1 s2 s3 s4
  obtain ⟨b7, hb7⟩ : ∃ z, z = w5.heap.size := ⟨_, rfl⟩
  have hx := below_alloc (Below.refl w5.heap.size w5) (.cells #[.int .i64 a, .int .i64 b] 57)
  have hq := Blk.new w5 [.int .i64 a, .int .i64 b] 57
  rw [← hb7] at hq ⊢
  have H7 := Aside0.mk (And.intro hq (And.intro (HQ.out.2.below (below_step H5.out hx)) (below_step HB.out (below_step H5.out hx))))
  clear hx hq hb7
  generalize w5.alloc (.cells #[.int .i64 a, .int .i64 b] 57) = w7 at H7 ⊢
  have s0 := H7.out.2.1.at_ (i := 0) rfl
  have s1 := H7.out.2.1.at_ (i := 1) rfl
  have s2 := H7.out.2.1.at_ (i := 2) rfl
  have s3 := H7.out.2.1.at_ (i := 3) rfl
  have s4 := H7.out.2.1.at_ (i := 4) rfl
  go_upto_region 3 with ((with_reducible refine (HT.out _).mono ?_); rintro e8 w8 ⟨rfl, hb8⟩; have H8 := Aside0.mk hb8; clear hb8)
  clear s0 s1 s2 s3 s4
  obtain ⟨b9, hb9⟩ : ∃ z, z = w8.heap.size := ⟨_, rfl⟩
  have hx := below_alloc (Below.refl w8.heap.size w8) (.cells #[.int .i64 c, .int .i64 d] 57)
  have hq := Blk.new w8 [.int .i64 c, .int .i64 d] 57
  rw [← hb9] at hq ⊢
  have H9 := Aside0.mk (And.intro hq (And.intro (H7.out.1.below (below_step H8.out hx)) (below_step H7.out.2.2 (below_step H8.out hx))))
  clear hx hq hb9
  generalize w8.alloc (.cells #[.int .i64 c, .int .i64 d] 57) = w9 at H9 ⊢
  have s0 := H9.out.2.1.at_ (i := 0) rfl
  have s1 := H9.out.2.1.at_ (i := 1) rfl
  have t0 := H9.out.1.at_ (i := 0) rfl
  have t1 := H9.out.1.at_ (i := 1) rfl
  clear k3 k5 k6
  go_wp2_with fail
  go_ret
  refine ⟨⟨_, rfl, ?_⟩, H9.out.2.2⟩
  rw [← HNQ.out, decide_eq_true_iff]
  have HY := HYB.out
  clear HNQ k1 k2 k4
  generalize a * d - c * b = X at *
  generalize tol * b * d = Y at *
  obtain ⟨n1, n2⟩ := hnb
  try rw [Q.wrap_id (x := X) (by omega) (by omega)]
  try rw [Q.wrap_id (x := -X) (by omega) (by omega)]
  try rw [Q.wrap_id (x := Y) (by omega) (by omega)]
  by_cases hx0 : -X ≤ X
  · rw [Int.max_eq_left hx0]
    try rw [Q.wrap_id (x := X * 10000) (by omega) (by omega)]
    omega
  · rw [Int.max_eq_right (by omega)]
    try rw [Q.wrap_id (x := -X * 10000) (by omega) (by omega)]
    omega
end Go.Proofs.Ythkfahkkcjagdaa
namespace Go.Proofs.Ythkfahkkcjagdaa
open Go.RowKit Go.Proofs.YthkfahkkcjagdaaW.PrintWords Go.Proofs.YthkfahkkcjagdaaW.PrintMore Go.Proofs.YthkfahkkcjagdaaW.PrintLast

structure AG (xs : List Sb) (tol st : Int) (us : List Int) : Prop where
  t : TSt xs st us
  s : st = 0 ∨ st = 1 ∨ st = 2
  g1 : st = 1 → xs.length % 2 = 0 ∧ 0 < xs.length ∧ goodS xs tol ∧ us = usedS xs
  g2 : st = 2 → xs.length = 8
theorem AG.new (tol : Int) : AG [] tol 0 [] := ⟨TSt.new, .inl rfl, fun h => absurd h (by decide), fun h => absurd h (by decide)⟩
theorem AG.fed {xs : List Sb} {tol : Int} {us : List Int} {s : Sb} (h : AG xs tol 0 us) (hs : SbOK s) : AG (xs ++ [s]) tol (fedSt (xs ++ [s]) tol) (fedUs (xs ++ [s]) tol) := by
  have ht := h.t.fed hs tol
  have h0 : 0 < (xs ++ [s]).length := by simp
  generalize xs ++ [s] = X at ht h0
  refine ⟨ht, ?_, ?_, ?_⟩
  · unfold fedSt; (repeat' split) <;> simp
  · intro h1
    unfold fedSt at h1
    unfold fedUs
    by_cases hp : X.length % 2 = 1
    · rw [if_pos hp] at h1; exact absurd h1 (by decide)
    · rw [if_neg hp] at h1 ⊢
      by_cases hg : goodS X tol
      · rw [if_pos hg]; exact ⟨by omega, h0, hg, rfl⟩
      · rw [if_neg hg] at h1
        split at h1 <;> exact absurd h1 (by decide)
  · intro h1
    unfold fedSt at h1
    by_cases hp : X.length % 2 = 1
    · rw [if_pos hp] at h1; exact absurd h1 (by decide)
    · rw [if_neg hp] at h1
      by_cases hg : goodS X tol
      · rw [if_pos hg] at h1; exact absurd h1 (by decide)
      · rw [if_neg hg] at h1
        split at h1
        · assumption
        · exact absurd h1 (by decide)
/-- A gap inside a wider one. -/
theorem gap_in {wA rA wB rB wa ra wb rb k : Int} (hA : 1 ≤ rA) (hB : 1 ≤ rB) (ha : 1 ≤ ra) (hb : 1 ≤ rb) (h1 : wA * ra ≤ wa * rA) (h2 : wb * rB ≤ wB * rb) (hg : (wB * rA - wA * rB) * 10000 ≤ k * (rA * rB)) : (wb * ra - wa * rb) * 10000 ≤ k * (ra * rb) := by
  have hp : 0 < rA * rB := Int.mul_pos (by omega) (by omega)
  have hq : 0 ≤ ra * rb := Int.le_of_lt (Int.mul_pos (by omega) (by omega))
  have m1 : wA * ra * (rb * rB) ≤ wa * rA * (rb * rB) := Int.mul_le_mul_of_nonneg_right h1 (Int.le_of_lt (Int.mul_pos (by omega) (by omega)))
  have m2 : wb * rB * (ra * rA) ≤ wB * rb * (ra * rA) := Int.mul_le_mul_of_nonneg_right h2 (Int.le_of_lt (Int.mul_pos (by omega) (by omega)))
  have m3 : (wB * rA - wA * rB) * 10000 * (ra * rb) ≤ k * (rA * rB) * (ra * rb) := Int.mul_le_mul_of_nonneg_right hg hq
  refine Int.le_of_mul_le_mul_right ?_ hp
  have e1 : (wb * ra - wa * rb) * 10000 * (rA * rB) = 10000 * (wb * rB * (ra * rA)) - 10000 * (wa * rA * (rb * rB)) := by grind
  have e2 : (wB * rA - wA * rB) * 10000 * (ra * rb) = 10000 * (wB * rb * (ra * rA)) - 10000 * (wA * ra * (rb * rB)) := by grind
  have e3 : k * (ra * rb) * (rA * rB) = k * (rA * rB) * (ra * rb) := by grind
  rw [e1, e3]
  rw [e2] at m3
  omega
/-- The order by base. -/
theorem ordS_le {xs : List Sb} (h : ∀ s ∈ xs, SbOK s) {i j : Nat} (hij : i ≤ j) (hj : j < xs.length) : woolS (rdQ xs ((ordS xs).getD i 0).toNat) * (rdQ xs ((ordS xs).getD j 0).toNat).raw ≤ woolS (rdQ xs ((ordS xs).getD j 0).toNat) * (rdQ xs ((ordS xs).getD i 0).toNat).raw := by
  rcases Nat.lt_or_ge i j with hlt | hge
  · have hp := srt_ahd (cfS_law h) (upto xs.length) (upto_pw _)
    have hl := ordS_length xs
    have hx : ahd (cfS xs) ((ordS xs).getD i 0) ((ordS xs).getD j 0) := by
      rw [List.getD_eq_getElem?_getD, List.getD_eq_getElem?_getD, List.getElem?_eq_getElem (by rw [hl]; omega), List.getElem?_eq_getElem (by rw [hl]; omega)]
      exact (List.pairwise_iff_getElem.1 hp) i j (by show i < (ordS xs).length; rw [hl]; omega) (by show j < (ordS xs).length; rw [hl]; omega) hlt
    have hn : ¬ 0 < cfN xs ((ordS xs).getD i 0).toNat ((ordS xs).getD j 0).toNat := by
      have : cfS xs ((ordS xs).getD i 0) ((ordS xs).getD j 0) ≤ 0 := by rcases hx with h | h <;> omega
      unfold cfS at this
      omega
    rw [cfN_pos] at hn
    omega
  · have : i = j := by omega
    subst this
    exact Int.le_refl _
theorem segS_mem {xs : List Sb} {x : Int} (hx : x ∈ segS xs) : ∃ j, winS xs ≤ j ∧ j ≤ winS xs + xs.length / 2 ∧ x = (ordS xs).getD j 0 ∧ j < xs.length := by
  obtain ⟨i, hi, e⟩ := List.mem_iff_getElem.1 hx
  have hl : (segS xs).length ≤ xs.length / 2 + 1 := by unfold segS; rw [List.length_take]; omega
  refine ⟨winS xs + i, by omega, by omega, ?_, ?_⟩
  · rw [← segS_at xs (by omega), List.getD_eq_getElem?_getD, List.getElem?_eq_getElem hi, e]; rfl
  · unfold segS at hi
    rw [List.length_take, List.length_drop, ordS_length] at hi
    omega
theorem winS_fit {xs : List Sb} (h0 : 0 < xs.length) (h : xs.length % 2 = 0) : winS xs + xs.length / 2 < xs.length := by
  have := winB_le (winG xs) (winD xs) (xs.length / 2 - 1)
  unfold winS
  omega
theorem raw_pos {xs : List Sb} (h : ∀ s ∈ xs, SbOK s) (i : Nat) : 1 ≤ (rdQ xs i).raw := (rdQ_ok h i).r1
theorem near_used {xs : List Sb} {tol : Int} (h : ∀ s ∈ xs, SbOK s) (h0 : 0 < xs.length) (h2 : xs.length % 2 = 0) (hg : goodS xs tol) {a b : Int} (ha : a ∈ usedS xs) (hb : b ∈ usedS xs) : nearP (rdQ xs a.toNat) (rdQ xs b.toNat) tol := by
  obtain ⟨i, i1, i2, rfl, i4⟩ := segS_mem ((usedS_perm xs).mem_iff.1 ha)
  obtain ⟨j, j1, j2, rfl, j4⟩ := segS_mem ((usedS_perm xs).mem_iff.1 hb)
  have hf := winS_fit h0 h2
  have x1 := ordS_le h i1 i4
  have x2 := ordS_le h j1 j4
  have x3 := ordS_le h i2 hf
  have x4 := ordS_le h j2 hf
  unfold goodS winG winD at hg
  unfold nearP
  unfold gapN at hg ⊢
  have r1 := raw_pos h ((ordS xs).getD i 0).toNat
  have r2 := raw_pos h ((ordS xs).getD j 0).toNat
  have r3 := raw_pos h ((ordS xs).getD (winS xs) 0).toNat
  have r4 := raw_pos h ((ordS xs).getD (winS xs + xs.length / 2) 0).toNat
  refine ⟨gap_in r3 r4 r1 r2 x1 x4 hg, ?_⟩
  rw [Int.mul_comm (rdQ xs ((ordS xs).getD i 0).toNat).raw]
  exact gap_in r3 r4 r2 r1 x2 x3 hg
/-- The first decision. -/
theorem near_first {xs : List Sb} {tol : Int} (h : ∀ s ∈ xs, SbOK s) (hl : xs.length = 2) : goodS xs tol ↔ nearP (rdQ xs 0) (rdQ xs 1) tol := by
  have hw : winS xs = 0 := by unfold winS; rw [hl]; rfl
  obtain ⟨p, hp, hp2⟩ := ordS_at xs (i := 0) (by omega)
  obtain ⟨q, hq, hq2⟩ := ordS_at xs (i := 1) (by omega)
  have hne : p ≠ q := by
    intro e
    have hd := ordS_nodup xs
    have hlen := ordS_length xs
    have := (List.nodup_iff_pairwise_ne.1 hd)
    have h01 := (List.pairwise_iff_getElem.1 this) 0 1 (by omega) (by omega) (by omega)
    rw [List.getD_eq_getElem?_getD, List.getElem?_eq_getElem (by omega)] at hp hq
    simp only [Option.getD_some] at hp hq
    rw [hp, hq, e] at h01
    exact h01 rfl
  have hle := ordS_le h (i := 0) (j := 1) (by omega) (by omega)
  have e0 : winG xs 0 = gapN (rdQ xs p) (rdQ xs q) := by
    unfold winG
    rw [hl, hp]
    show gapN (rdQ xs ((p : Int)).toNat) (rdQ xs ((ordS xs).getD 1 0).toNat) = _
    rw [hq]
    rfl
  have e1 : winD xs 0 = (rdQ xs p).raw * (rdQ xs q).raw := by
    unfold winD
    rw [hl, hp]
    show (rdQ xs ((p : Int)).toNat).raw * (rdQ xs ((ordS xs).getD 1 0).toNat).raw = _
    rw [hq]
    rfl
  rw [hp, hq, Int.toNat_natCast, Int.toNat_natCast] at hle
  unfold goodS
  rw [hw, e0, e1]
  clear e0 e1 hp hq
  unfold nearP gapN
  have r0 := raw_pos h 0
  have r1 := raw_pos h 1
  have c : (rdQ xs 1).raw * (rdQ xs 0).raw = (rdQ xs 0).raw * (rdQ xs 1).raw := Int.mul_comm _ _
  rcases (by omega : (p = 0 ∧ q = 1) ∨ (p = 1 ∧ q = 0)) with ⟨rfl, rfl⟩ | ⟨rfl, rfl⟩
  · constructor
    · intro hx
      exact ⟨hx, by omega⟩
    · intro hx
      exact hx.1
  · rw [c]
    constructor
    · intro hx
      exact ⟨by omega, hx⟩
    · intro hx
      exact hx.2
end Go.Proofs.Ythkfahkkcjagdaa
namespace Go.Proofs.Ythkfahkkcjagdaa
open Go.RowKit Go.Proofs.YthkfahkkcjagdaaW.PrintWords Go.Proofs.YthkfahkkcjagdaaW.PrintMore Go.Proofs.YthkfahkkcjagdaaW.PrintLast
set_option linter.unusedSimpArgs false
set_option linter.unusedVariables false

/-- The test and the law's own list in memory. -/
def AgM (N bt : Nat) (tol : Int) (A : Option Addr) (n c : Nat) (w : World) : Prop := ∃ (S L : Nat → Prop) (xs : List Sb) (st : Int) (us : List Int), n = xs.length ∧ AG xs tol st us ∧ OwnT w N S bt xs tol st us ∧ kQ.R 55 w N L (.slice A n c) xs ∧ (∀ k, S k → ¬ L k ∧ k ≠ bt ∧ N ≤ k ∧ k < w.heap.size) ∧ (∀ k, L k → k ≠ bt ∧ k < w.heap.size)
theorem AgM.below {N bt : Nat} {tol : Int} {A : Option Addr} {n c : Nat} {w w' : World} (h : AgM N bt tol A n c w) (k : Below w.heap.size w w') : AgM N bt tol A n c w' := by
  obtain ⟨S, L, xs, st, us, h1, h2, h3, h4, h5, h6⟩ := h
  exact ⟨S, L, xs, st, us, h1, h2, h3.below k, Kd.R_below h4 k, fun j hj => ⟨(h5 j hj).1, (h5 j hj).2.1, (h5 j hj).2.2.1, Nat.lt_of_lt_of_le (h5 j hj).2.2.2 k.size⟩, fun j hj => ⟨(h6 j hj).1, Nat.lt_of_lt_of_le (h6 j hj).2 k.size⟩⟩
theorem ofeedA_any {w : World} {N bt : Nat} {S : Nat → Prop} {xs : List Sb} {tol st : Int} {us : List Int} (h : OwnT w N S bt xs tol st us) (hst : st ≠ 0) (s : Sb) :
    Calls Try.prog 50 #[.pointer (some ⟨bt, 0, none⟩), .agg #[.int .i64 s.raw, .int .i64 s.dry, .int .i64 s.ash, .int .i64 s.gre, .int .i64 s.veg]] w fun e w' => e = .returned (.int .i64 10) ∧ Below w.heap.size w w' := by
  obtain ⟨_, _, h⟩ := h
  exact feedA_any h hst s
theorem ofeedB_any {w : World} {N bt : Nat} {S : Nat → Prop} {xs : List Sb} {tol : Int} {us : List Int} (h : OwnT w N S bt xs tol 0 us) {s : Sb} (hs : ¬ SbOK s) :
    Calls Try.prog 50 #[.pointer (some ⟨bt, 0, none⟩), .agg #[.int .i64 s.raw, .int .i64 s.dry, .int .i64 s.ash, .int .i64 s.gre, .int .i64 s.veg]] w fun e w' => e = .returned (.int .i64 2) ∧ Below w.heap.size w w' := by
  obtain ⟨_, _, h⟩ := h
  exact feedB_any h hs
def OFC (w : World) (N : Nat) (S : Nat → Prop) (bt : Nat) (X : List Sb) (tol : Int) (e : Ending) (w' : World) : Prop :=
  e = .returned (.int .i64 0) ∧ Kp (fun k => k = bt ∨ S k ∨ w.heap.size ≤ k) w w' ∧ OwnT w' N (fun k => S k ∨ w.heap.size ≤ k) bt X tol (fedSt X tol) (fedUs X tol)
theorem ofeedC_any {w : World} {N bt : Nat} {S : Nat → Prop} {xs : List Sb} {tol : Int} {us : List Int} (h : OwnT w N S bt xs tol 0 us) (ha : TSt xs 0 us) (ht : 0 ≤ tol ∧ tol ≤ 10000) (hnb : ¬ S bt) {s : Sb} (hs : SbOK s) :
    Calls Try.prog 50 #[.pointer (some ⟨bt, 0, none⟩), .agg #[.int .i64 s.raw, .int .i64 s.dry, .int .i64 s.ash, .int .i64 s.gre, .int .i64 s.veg]] w (OFC w N S bt (xs ++ [s]) tol) := by
  have := ofeed_any h ha ht hnb s
  unfold OFeedPost fdE fdX fdS fdU at this
  simp only [ne_eq, not_true_eq_false, if_false, sbB_yes hs, if_true] at this
  exact this
theorem OwnT.lt {w : World} {N bt : Nat} {S : Nat → Prop} {xs : List Sb} {tol st : Int} {us : List Int} (h : OwnT w N S bt xs tol st us) : bt < w.heap.size := by
  obtain ⟨_, _, h⟩ := h
  exact h.b.lt
theorem OwnT.kp {w w' : World} {N bt : Nat} {S T : Nat → Prop} {xs : List Sb} {tol st : Int} {us : List Int} (h : OwnT w N S bt xs tol st us) (k : Kp T w w') (h1 : ¬ T bt) (h2 : ∀ j, S j → ¬ T j) : OwnT w' N S bt xs tol st us := by
  obtain ⟨vs, vu, h⟩ := h
  exact ⟨vs, vu, h.kp k h1 h2⟩
theorem below_drewN {N : Nat} {w W : World} (h : Below N w W) (n : Nat) : Below N w (W.drewN n) := ⟨h.os, h.tape, h.output, h.size, h.block⟩
theorem first_eq {xs : List Sb} {tol : Int} (h : ∀ s ∈ xs, SbOK s) (hl : xs.length = 2) (b : Bool) (hb : b = true ↔ nearP (rdQ xs 0) (rdQ xs 1) tol) : (fedSt xs tol == 1) = b := by
  rw [← near_first h hl] at hb
  unfold fedSt
  rw [if_neg (by omega)]
  by_cases hg : goodS xs tol
  · rw [if_pos hg, hb.2 hg]; rfl
  · rw [if_neg hg, if_neg (by omega)]
    have : b = false := by
      cases b with
      | false => rfl
      | true => exact absurd (hb.1 rfl) hg
    rw [this]; rfl
set_option maxHeartbeats 16000000 in
set_option maxRecDepth 100000 in
theorem agreeLaw_any (w : World) (A : Option Addr) (len cap : Nat) (zs : List Sb) (tol : Int) (hn : zs.length = len) (hz : kQ.C w A len zs) :
    Calls Try.prog 16 #[.int .i64 tol, .slice A len cap] w fun e w' => e = .returned (.bool true) ∧ Below w.heap.size w w' := by
  have HAL := Aside0.mk alive_any
  by_cases ht : 0 ≤ tol ∧ tol ≤ 10000
  case neg =>
    have HN := Aside0.mk (newB_any w tol (by omega))
    clear ht hz hn
    go_enter Try.func16, Try.ntmps16
    go_wp2_with (first
      | ((with_reducible refine HN.out.mono ?_); rintro e5 w5 ⟨rfl, hb5⟩; have H5 := Aside0.mk hb5; clear hb5)
      | ((with_reducible refine (HAL.out _).mono ?_); rintro e w' ⟨rfl, hb2⟩; have HB2 := Aside0.mk (below_step H5.out hb2); clear hb2))
    go_ret
    exact ⟨rfl, HB2.out⟩
  have HN := Aside0.mk (newT_any w tol ht)
  by_cases hl : 40 < len
  · have d1 : decide ((len : Int) > 40) = true := decide_eq_true (by omega)
    clear ht hz hn hl
    go_enter Try.func16, Try.ntmps16
    go_wp2_with (first
      | ((with_reducible refine HN.out.mono ?_); rintro e5 w5 ⟨rfl, hb5, hT5⟩; have H5 := Aside0.mk hb5; clear hb5 hT5)
      | ((with_reducible refine (HAL.out _).mono ?_); rintro e w' ⟨rfl, hb2⟩; have HB2 := Aside0.mk (below_step H5.out hb2); clear hb2))
    go_ret
    exact ⟨rfl, HB2.out⟩
  have d1 : decide ((len : Int) > 40) = false := decide_eq_false (by omega)
  have HZ := Aside0.mk (And.intro hn hz)
  have HT := Aside0.mk ht
  clear hn hz ht
  obtain ⟨P, hP⟩ : ∃ P, P = fun (e : Ending) (w' : World) => e = .returned (.bool true) ∧ Below w.heap.size w w' := ⟨_, rfl⟩
  rw [← hP]
  have HP := Aside0.mk hP
  clear hP
  go_enter Try.func16, Try.ntmps16
  go_upto_region 2 with ((with_reducible refine HN.out.mono ?_); rintro e5 w5 ⟨rfl, hb5, hT5⟩; have H5 := Aside0.mk (And.intro hb5 hT5); clear hb5 hT5)
  obtain ⟨bt, hbt⟩ : ∃ z, z = w.heap.size := ⟨_, rfl⟩
  rw [← hbt]
  have HBT := Aside0.mk hbt
  clear hbt
  have H7 : Aside0 (Below w.heap.size w w5 ∧ AgM w.heap.size bt tol none 0 0 w5) := ⟨H5.out.1, fun _ => False, fun _ => False, [], 0, [], rfl, AG.new tol, by rw [HBT.out]; exact ⟨_, _, H5.out.2 _⟩, Kd.R_nil _ _ _ _ _, fun _ h => h.elim, fun _ h => h.elim⟩
  go_wp2_with fail
  go_loopw [7, 8, 9, 10, 11, 12, 13, 14] (fun v7 v8 _ _ _ _ _ _ wr => ∃ (i n c : Nat) (A7 : Option Addr), v8 = .int .i64 i ∧ v7 = .slice A7 n c ∧ i ≤ len ∧ n ≤ 8 ∧ Aside0 (Below w.heap.size w wr ∧ AgM w.heap.size bt tol A7 n c wr)) (fun _ v8 _ _ _ _ _ _ _ => len - (intOf v8).toNat)
  case atStart => exact ⟨0, 0, 0, none, rfl, rfl, by omega, by omega, H7⟩
  case round =>
    obtain ⟨i, n, c, A7, rfl, rfl, hi, hn8, HI⟩ := hrel
    obtain ⟨wo, rfl⟩ : ∃ wo : World, wo = wr := ⟨_, rfl⟩
    by_cases hlt : i < len
    · have hlti : (i : Int) < len := by omega
      obtain ⟨hB, S, L, xs, st, us, hnx, hAG, hO, hL, hS1, hS2⟩ := HI.out
      obtain ⟨ad, ea, hsub⟩ := at_QB HZ.out.2 i hlt
      cases ea
      generalize rdQ zs i = s at hsub
      have HSUB := Aside0.mk hsub
      have HST := Aside0.mk (fun (W : World) (hW : Below wo.heap.size wo W) => ostate_any (hO.below hW))
      have HOR := Aside0.mk (fun (W : World) (hW : Below wo.heap.size wo W) => oresult_any (hO.below hW) hAG.t)
      have HM := Aside0.mk hO
      have HXX := Aside0.mk (And.intro hB (And.intro hnx (And.intro hAG (And.intro hL (And.intro hS1 hS2)))))
      unfold OResPost at HOR
      generalize rsV woolS st xs us = vx at HOR
      generalize rsV Sb.veg st xs us = vy at HOR
      generalize rsV Sb.raw st xs us = vz at HOR
      generalize rsE st = er at HOR
      obtain ⟨m, hm⟩ : ∃ z, z = us.length := ⟨_, rfl⟩
      rw [← hm] at HOR
      have HMU := Aside0.mk hm
      clear hB hnx hAG hO hL hS1 hS2 HI hsub hm
      go_upto_region 10 with (first
        | ((with_reducible refine (HST.out _ (Below.refl _ _)).mono ?_); rintro e8 w8 ⟨rfl, rfl⟩)
        | ((with_reducible refine (HOR.out _ (Below.refl _ _)).mono ?_); rintro e9 w9 ⟨hb9, B10, c10, rfl, hr9⟩; have H9 := Aside0.mk (And.intro hb9 hr9); clear hb9 hr9))
      obtain ⟨b10, hb10⟩ : ∃ z, z = w9.heap.size := ⟨_, rfl⟩
      have hx := below_alloc (Below.refl w9.heap.size w9) (.cells #[.int .i64 vx, .int .i64 vy, .int .i64 vz, .slice B10 m c10] 83)
      have hq := Blk.new w9 [.int .i64 vx, .int .i64 vy, .int .i64 vz, .slice B10 m c10] 83
      rw [← hb10] at hq ⊢
      have H10 := Aside0.mk (And.intro hq (And.intro (Kd.R_below H9.out.2 hx) (below_step H9.out.1 hx)))
      clear hx hq hb10
      generalize w9.alloc (.cells #[.int .i64 vx, .int .i64 vy, .int .i64 vz, .slice B10 m c10] 83) = w10 at H10 ⊢
      have HB10 := Aside0.mk (below_step HXX.out.1 H10.out.2.2)
      obtain ⟨d0, d1', d2, d3, d4⟩ := HSUB.out _ HB10.out
      by_cases hst : st = 0
      · subst hst
        have e0 : ((0 : Int) != 0) = false := by decide
        by_cases hs : SbOK s
        case neg =>
          have HF := Aside0.mk (ofeedB_any (HM.out.below H10.out.2.2) hs)
          clear hs
          obtain ⟨qr, qd, qa, qg, qv⟩ := s
          dsimp only at HF d0 d1' d2 d3 d4
          go_upto_region 11 with ((with_reducible refine HF.out.mono ?_); rintro e11 w11 ⟨rfl, hb11⟩; have H11 := Aside0.mk (below_step H10.out.2.2 hb11); clear hb11)
          clear d0 d1' d2 d3 d4
          go_wp2_with fail
          go_roundw
          case rel => exact ⟨i + 1, n, c, A7, by go_num, rfl, by omega, by omega, ⟨below_step HXX.out.1 H11.out, (show AgM w.heap.size bt tol A7 n c wo from ⟨S, L, xs, 0, us, HXX.out.2.1, HXX.out.2.2.1, HM.out, HXX.out.2.2.2.1, HXX.out.2.2.2.2.1, HXX.out.2.2.2.2.2⟩).below H11.out⟩⟩
          case measure => simp [intOf]; omega
        have hn7 : n < 8 := by rw [HXX.out.2.1]; exact HXX.out.2.2.1.t.h0 rfl
        have HF := Aside0.mk (ofeedC_any (HM.out.below H10.out.2.2) HXX.out.2.2.1.t HT.out (fun h => (HXX.out.2.2.2.2.1 _ h).2.1 rfl) hs)
        have HAG := Aside0.mk (HXX.out.2.2.1.fed hs)
        have HLN : Aside0 ((xs ++ [s]).length = n + 1) := ⟨by rw [HXX.out.2.1]; simp⟩
        obtain ⟨qr, qd, qa, qg, qv⟩ := s
        dsimp only at HF d0 d1' d2 d3 d4
        obtain ⟨X, hX⟩ : ∃ z, z = xs ++ [(⟨qr, qd, qa, qg, qv⟩ : Sb)] := ⟨_, rfl⟩
        rw [← hX] at HF HAG HLN
        have HXE := Aside0.mk hX
        clear hs hX
        go_upto_region 11 with ((with_reducible refine HF.out.mono ?_); rintro e11 w11 ⟨rfl, hk11, ho11⟩; have H11 := Aside0.mk (And.intro hk11 ho11); clear hk11 ho11)
        clear d0 d1' d2 d3 d4
        have HB11 : Aside0 (Below w.heap.size w w11) := ⟨((Kp.of_below HB10.out : Kp (fun k => w.heap.size ≤ k) w w10).trans H11.out.1 (fun j hj hk => by
          rcases hk with hk | hk | hk
          · have := HBT.out; omega
          · exact (HXX.out.2.2.2.2.1 _ hk).2.2.1
          · have := HB10.out.size; omega)).below_of (fun _ h => h)⟩
        have HL11 : Aside0 (kQ.R 55 w11 w.heap.size L (.slice A7 n c) xs) := ⟨Kd.R_step (Kd.R_below HXX.out.2.2.2.1 H10.out.2.2) (fun j hj hl => H11.out.1.block j hl (fun hk => by
          rcases hk with hk | hk | hk
          · exact (HXX.out.2.2.2.2.2 _ hj).1 hk
          · exact (HXX.out.2.2.2.2.1 _ hk).1 hj
          · omega))⟩
        obtain ⟨d0, d1', d2, d3, d4⟩ := HSUB.out _ HB11.out
        try dsimp only at d0 d1' d2 d3 d4
        go_upto_region 16 with fail
        go_upto_region 17 with ((with_reducible refine gate_builtin (b := .append) (xs := #[.tmp 76, .tmp 81]) rfl ?_); at_builtin; refine Kd.R_append kQ (w0 := w) w.heap.size rfl (.tmp 76) (.tmp 81) 78 55 (.agg #[.int .i64 0, .int .i64 0, .int .i64 0, .int .i64 0, .int .i64 0]) 40 rfl Try.underlying78 info55 rfl (by decide) (by decide) (.slice A7 n c) xs ⟨qr, qd, qa, qg, qv⟩ [.int .i64 qr, .int .i64 qd, .int .i64 qa, .int .i64 qg, .int .i64 qv] (fun k => L k ∨ w11.heap.size ≤ k) (fun _ => False) rfl rfl ?aP (fun _ hk => hk.elim) ?aF ?aO ?aB ?aS ?aL ?_; (case aP => exact rfl); (case aB => exact HB11.out); (case aF => exact (fun _ h => .inr h)); (case aO => exact Kd.R_mono HL11.out (fun _ h => .inl h)); (case aS => exact HB11.out.size); (case aL => have := HXX.out.2.1; omega); intro v16 w16 ho hb hg hat; obtain ⟨A16, c16, hv16⟩ := Kd.R_slice ho; rw [show (xs ++ [(⟨qr, qd, qa, qg, qv⟩ : Sb)]).length = n + 1 by rw [← HXE.out]; exact HLN.out] at hv16; subst hv16; have H16 := Aside0.mk (And.intro ho (And.intro hb (Kp.grown (Kp.refl (fun j => L j) w11) hg (fun j hj => HL11.out.1 j hj) (fun _ h => h)))); clear ho hb hg hat)
        clear d0 d1' d2 d3 d4
        have HO16 : Aside0 (OwnT w16 w.heap.size (fun k => (S k ∨ w10.heap.size ≤ k) ∧ k < w11.heap.size) bt X tol (fedSt X tol) (fedUs X tol)) := ⟨(H11.out.2.bound).kp H16.out.2.2 (fun h => (HXX.out.2.2.2.2.2 _ h).1 rfl) (fun j hj hl => by
          rcases hj.1 with h | h
          · exact (HXX.out.2.2.2.2.1 _ h).1 hl
          · have := (HXX.out.2.2.2.2.2 _ hl).2; have := H10.out.2.2.size; omega)⟩
        have HNM : Aside0 (∀ W, Below w16.heap.size w16 W → AgM w.heap.size bt tol A16 (n + 1) c16 W) := ⟨fun W hW => AgM.below ⟨fun k => (S k ∨ w10.heap.size ≤ k) ∧ k < w11.heap.size, fun k => (L k ∨ w11.heap.size ≤ k) ∧ k < w16.heap.size, X, fedSt X tol, fedUs X tol, HLN.out.symm, HAG.out, HO16.out, by
            rw [HXE.out]
            exact Kd.R_mono (Kd.R_bound H16.out.1) (fun j hj => ⟨hj.1, hj.2.2.1⟩),
          fun k hk => ⟨fun hl => by
            rcases hl.1 with h | h
            · rcases hk.1 with h2 | h2
              · exact (HXX.out.2.2.2.2.1 _ h2).1 h
              · have := (HXX.out.2.2.2.2.2 _ h).2; have := H10.out.2.2.size; omega
            · omega, by
            rcases hk.1 with h2 | h2
            · exact (HXX.out.2.2.2.2.1 _ h2).2.1
            · have := HM.out.lt; have := H10.out.2.2.size; omega, by
            rcases hk.1 with h2 | h2
            · exact (HXX.out.2.2.2.2.1 _ h2).2.2.1
            · have := HB10.out.size; omega, by
            have := H16.out.2.2.size; omega⟩,
          fun k hk => ⟨by
            rcases hk.1 with h | h
            · exact (HXX.out.2.2.2.2.2 _ h).1
            · have := HM.out.lt; have := H10.out.2.2.size; have := H11.out.1.size; omega, hk.2⟩⟩ hW⟩
        have HBW : Aside0 (Below w.heap.size w w16) := ⟨H16.out.2.1⟩
        have d8 : decide (((n : Int) + 1) > 8) = false := decide_eq_false (by omega)
        have d8' : decide (((n + 1 : Nat) : Int) > 8) = false := decide_eq_false (by omega)
        have HST16 := Aside0.mk (fun (W : World) (hW : Below w16.heap.size w16 W) => ostate_any (HO16.out.below hW))
        have HC16 : Aside0 (kQ.C w16 A16 (n + 1) X) := ⟨by
          have h := H16.out.1
          rw [← HXE.out] at h
          obtain ⟨_, _, e, _, hc⟩ := Kd.R_reads h
          rw [HLN.out] at e hc
          cases e
          exact hc⟩
        by_cases hn2 : n + 1 = 2
        · have q1 : (((n + 1 : Nat) : Int) == 2) = true := by
            rw [beq_iff_eq]; omega
          have q1' : (((n : Int) + 1) == 2) = true := by
            rw [beq_iff_eq]; omega
          obtain ⟨al, eal, hc0⟩ := at_QB HC16.out 0 (by omega)
          cases eal
          obtain ⟨al', eal, hc1⟩ := at_QB HC16.out 1 (by omega)
          cases eal
          have HNR := Aside0.mk (fun W => near_any W (rdQ_ok HAG.out.t.hok 0) (rdQ_ok HAG.out.t.hok 1) tol HT.out)
          have HFE := Aside0.mk (fun b hb => first_eq (tol := tol) HAG.out.t.hok (by rw [HLN.out]; exact hn2) b hb)
          obtain ⟨s2, hs2⟩ : ∃ z, z = fedSt X tol := ⟨_, rfl⟩
          rw [← hs2] at HST16 HFE
          clear hs2
          obtain ⟨Rn, hRn⟩ : ∃ R, R = nearP (rdQ X 0) (rdQ X 1) tol := ⟨_, rfl⟩
          rw [← hRn] at HFE HNR
          clear hRn
          generalize rdQ X 0 = x0 at hc0 HNR
          generalize rdQ X 1 = x1 at hc1 HNR
          obtain ⟨qr, qd, qa, qg, qv⟩ := x0
          obtain ⟨pr, pd, pa, pg, pv⟩ := x1
          dsimp only at hc0 hc1 HNR
          have hn1 : (0 : Int) < ((n + 1 : Nat) : Int) := by omega
          have hn3 : (1 : Int) < ((n + 1 : Nat) : Int) := by omega
          have hn1' : (0 : Int) < (n : Int) + 1 := by omega
          have hn3' : (1 : Int) < (n : Int) + 1 := by omega
          have hn4' : 1 < n + 1 := by omega
          have HS17 := Aside0.mk (fun (W : World) (hW : Below w16.heap.size w16 W) => And.intro (Aside0.mk hW) (And.intro (hc0 W hW) (hc1 W hW)))
          have ez : al.add (0 * 5) = al := by cases al; rfl
          have e5 : al.add (1 * 5) = ⟨al.block, al.off + 5, none⟩ := rfl
          simp only [ez, e5] at HS17
          clear ez e5
          clear hc0 hc1 hn2
          go_region_held3 (fun W => Aside0 (Below w16.heap.size w16 W) ∧ (W.cell? al = some (.int .i64 qr) ∧ W.cell? ⟨al.block, al.off + 1, none⟩ = some (.int .i64 qd) ∧ W.cell? ⟨al.block, al.off + 2, none⟩ = some (.int .i64 qa) ∧ W.cell? ⟨al.block, al.off + 3, none⟩ = some (.int .i64 qg) ∧ W.cell? ⟨al.block, al.off + 4, none⟩ = some (.int .i64 qv)) ∧ W.cell? ⟨al.block, al.off + 5, none⟩ = some (.int .i64 pr) ∧ W.cell? ⟨al.block, al.off + 5 + 1, none⟩ = some (.int .i64 pd) ∧ W.cell? ⟨al.block, al.off + 5 + 2, none⟩ = some (.int .i64 pa) ∧ W.cell? ⟨al.block, al.off + 5 + 3, none⟩ = some (.int .i64 pg) ∧ W.cell? ⟨al.block, al.off + 5 + 4, none⟩ = some (.int .i64 pv))
            ((refine HS17.out _ ?_; repeat (with_reducible (first | exact Below.refl _ _ | exact HB14.out | exact hbT (by assumption) | refine below_drew ?_))))
            (first
              | ((with_reducible refine (HST16.out _ (hbT (by assumption))).mono ?_); rintro e13 w13 ⟨rfl, rfl⟩)
              | ((with_reducible refine (HNR.out _).mono ?_); rintro e14 w14 ⟨⟨bn, rfl, hbn⟩, hb14⟩; have HB14 := Aside0.mk (below_step (hbT (by assumption)) hb14); have q3 := HFE.out bn hbn; clear hb14 hbn))
          go_wp2_with fail
          go_roundw
          case rel => exact ⟨i + 1, n + 1, c16, _, by go_num, rfl, by omega, by omega, ⟨below_step HBW.out HB14.out, HNM.out _ HB14.out⟩⟩
          case measure => simp [intOf]; omega
        · have q1 : (((n + 1 : Nat) : Int) == 2) = false := by
            rw [beq_eq_false_iff_ne]; omega
          have q1' : (((n : Int) + 1) == 2) = false := by
            rw [beq_eq_false_iff_ne]; omega
          refine start_ (n := 22) (S := (fun W => Below w16.heap.size w16 W)) (ds := []) #[false, false, false, false, false, false, false, false, false, false, false, false, false, false, false, false, false, false, false, false, false, false] (by kernel_rfl) rfl rfl (below_drew (Below.refl _ _)) (fun hHeld => ?_)
          refine pure_ (i := 0) (N := some 83) (v := ?_) (a' := ?_) #[true, false, false, false, false, false, false, false, false, false, false, false, false, false, false, false, false, false, false, false, false, false] rfl rfl (by kernel_rfl) (fun _ _ _ h => h) (Or.inl ⟨by rfl, ?_⟩) ?_ ?_
          rotate_left
          · intro w'
            go_simp
            with_reducible rfl
          rotate_left
          · simp only [Act.put, List.setIfInBounds_toArray, List.set_cons_zero, List.set_cons_succ, i64_w, i32_w]
            rfl
          refine pure_ (i := 1) (N := some 84) (v := ?_) (a' := ?_) #[true, true, false, false, false, false, false, false, false, false, false, false, false, false, false, false, false, false, false, false, false, false] rfl rfl (by kernel_rfl) (fun _ _ _ h => h) (Or.inl ⟨by rfl, ?_⟩) ?_ ?_
          rotate_left
          · intro w'
            go_simp
            with_reducible rfl
          rotate_left
          · simp only [Act.put, List.setIfInBounds_toArray, List.set_cons_zero, List.set_cons_succ, i64_w, i32_w]
            rfl
          refine pure_ (i := 2) (N := some 85) (v := ?_) (a' := ?_) #[true, true, true, false, false, false, false, false, false, false, false, false, false, false, false, false, false, false, false, false, false, false] rfl rfl (by kernel_rfl) (fun _ _ _ h => h) (Or.inl ⟨by rfl, ?_⟩) ?_ ?_
          rotate_left
          · intro w'
            go_simp
            with_reducible rfl
          rotate_left
          · simp only [Act.put, List.setIfInBounds_toArray, List.set_cons_zero, List.set_cons_succ, i64_w, i32_w]
            rfl
          refine pure_ (i := 3) (N := some 86) (v := ?_) (a' := ?_) #[true, true, true, true, false, false, false, false, false, false, false, false, false, false, false, false, false, false, false, false, false, false] rfl rfl (by kernel_rfl) (fun _ _ _ h => h) (Or.inl ⟨by rfl, ?_⟩) ?_ ?_
          rotate_left
          · intro w'
            go_simp
            with_reducible rfl
          rotate_left
          · simp only [Act.put, List.setIfInBounds_toArray, List.set_cons_zero, List.set_cons_succ, i64_w, i32_w]
            rfl
          refine pure_ (i := 4) (N := some 87) (v := undef) (a' := ?_) #[true, true, true, true, true, false, false, false, false, false, false, false, false, false, false, false, false, false, false, false, false, false] rfl rfl (by kernel_rfl) (fun _ _ _ h => h) (Or.inr ⟨by rfl, rfl⟩) ?_ ?_
          rotate_left
          · simp only [Act.put, List.setIfInBounds_toArray, List.set_cons_zero, List.set_cons_succ, i64_w, i32_w]
            rfl
          refine pure_ (i := 5) (N := some 88) (v := undef) (a' := ?_) #[true, true, true, true, true, true, false, false, false, false, false, false, false, false, false, false, false, false, false, false, false, false] rfl rfl (by kernel_rfl) (fun _ _ _ h => h) (Or.inr ⟨by rfl, rfl⟩) ?_ ?_
          rotate_left
          · simp only [Act.put, List.setIfInBounds_toArray, List.set_cons_zero, List.set_cons_succ, i64_w, i32_w]
            rfl
          refine pure_ (i := 6) (N := some 89) (v := undef) (a' := ?_) #[true, true, true, true, true, true, true, false, false, false, false, false, false, false, false, false, false, false, false, false, false, false] rfl rfl (by kernel_rfl) (fun _ _ _ h => h) (Or.inr ⟨by rfl, rfl⟩) ?_ ?_
          rotate_left
          · simp only [Act.put, List.setIfInBounds_toArray, List.set_cons_zero, List.set_cons_succ, i64_w, i32_w]
            rfl
          refine pure_ (i := 7) (N := some 90) (v := undef) (a' := ?_) #[true, true, true, true, true, true, true, true, false, false, false, false, false, false, false, false, false, false, false, false, false, false] rfl rfl (by kernel_rfl) (fun _ _ _ h => h) (Or.inr ⟨by rfl, rfl⟩) ?_ ?_
          rotate_left
          · simp only [Act.put, List.setIfInBounds_toArray, List.set_cons_zero, List.set_cons_succ, i64_w, i32_w]
            rfl
          refine pure_ (i := 8) (N := some 91) (v := undef) (a' := ?_) #[true, true, true, true, true, true, true, true, true, false, false, false, false, false, false, false, false, false, false, false, false, false] rfl rfl (by kernel_rfl) (fun _ _ _ h => h) (Or.inr ⟨by rfl, rfl⟩) ?_ ?_
          rotate_left
          · simp only [Act.put, List.setIfInBounds_toArray, List.set_cons_zero, List.set_cons_succ, i64_w, i32_w]
            rfl
          refine pure_ (i := 9) (N := some 92) (v := undef) (a' := ?_) #[true, true, true, true, true, true, true, true, true, true, false, false, false, false, false, false, false, false, false, false, false, false] rfl rfl (by kernel_rfl) (fun _ _ _ h => h) (Or.inr ⟨by rfl, rfl⟩) ?_ ?_
          rotate_left
          · simp only [Act.put, List.setIfInBounds_toArray, List.set_cons_zero, List.set_cons_succ, i64_w, i32_w]
            rfl
          refine pure_ (i := 10) (N := some 93) (v := undef) (a' := ?_) #[true, true, true, true, true, true, true, true, true, true, true, false, false, false, false, false, false, false, false, false, false, false] rfl rfl (by kernel_rfl) (fun _ _ _ h => h) (Or.inr ⟨by rfl, rfl⟩) ?_ ?_
          rotate_left
          · simp only [Act.put, List.setIfInBounds_toArray, List.set_cons_zero, List.set_cons_succ, i64_w, i32_w]
            rfl
          refine pure_ (i := 11) (N := some 94) (v := undef) (a' := ?_) #[true, true, true, true, true, true, true, true, true, true, true, true, false, false, false, false, false, false, false, false, false, false] rfl rfl (by kernel_rfl) (fun _ _ _ h => h) (Or.inr ⟨by rfl, rfl⟩) ?_ ?_
          rotate_left
          · simp only [Act.put, List.setIfInBounds_toArray, List.set_cons_zero, List.set_cons_succ, i64_w, i32_w]
            rfl
          refine pure_ (i := 12) (N := some 95) (v := undef) (a' := ?_) #[true, true, true, true, true, true, true, true, true, true, true, true, true, false, false, false, false, false, false, false, false, false] rfl rfl (by kernel_rfl) (fun _ _ _ h => h) (Or.inr ⟨by rfl, rfl⟩) ?_ ?_
          rotate_left
          · simp only [Act.put, List.setIfInBounds_toArray, List.set_cons_zero, List.set_cons_succ, i64_w, i32_w]
            rfl
          refine pure_ (i := 13) (N := some 96) (v := undef) (a' := ?_) #[true, true, true, true, true, true, true, true, true, true, true, true, true, true, false, false, false, false, false, false, false, false] rfl rfl (by kernel_rfl) (fun _ _ _ h => h) (Or.inr ⟨by rfl, rfl⟩) ?_ ?_
          rotate_left
          · simp only [Act.put, List.setIfInBounds_toArray, List.set_cons_zero, List.set_cons_succ, i64_w, i32_w]
            rfl
          refine pure_ (i := 14) (N := some 97) (v := undef) (a' := ?_) #[true, true, true, true, true, true, true, true, true, true, true, true, true, true, true, false, false, false, false, false, false, false] rfl rfl (by kernel_rfl) (fun _ _ _ h => h) (Or.inr ⟨by rfl, rfl⟩) ?_ ?_
          rotate_left
          · simp only [Act.put, List.setIfInBounds_toArray, List.set_cons_zero, List.set_cons_succ, i64_w, i32_w]
            rfl
          refine pure_ (i := 15) (N := some 98) (v := undef) (a' := ?_) #[true, true, true, true, true, true, true, true, true, true, true, true, true, true, true, true, false, false, false, false, false, false] rfl rfl (by kernel_rfl) (fun _ _ _ h => h) (Or.inr ⟨by rfl, rfl⟩) ?_ ?_
          rotate_left
          · simp only [Act.put, List.setIfInBounds_toArray, List.set_cons_zero, List.set_cons_succ, i64_w, i32_w]
            rfl
          refine pure_ (i := 16) (N := some 99) (v := ?_) (a' := ?_) #[true, true, true, true, true, true, true, true, true, true, true, true, true, true, true, true, true, false, false, false, false, false] rfl rfl (by kernel_rfl) (fun _ _ _ h => h) (Or.inl ⟨by rfl, ?_⟩) ?_ ?_
          rotate_left
          · intro w'
            go_simp
            with_reducible rfl
          rotate_left
          · simp only [Act.put, List.setIfInBounds_toArray, List.set_cons_zero, List.set_cons_succ, i64_w, i32_w]
            rfl
          refine pure_ (i := 17) (N := some 100) (v := ?_) (a' := ?_) #[true, true, true, true, true, true, true, true, true, true, true, true, true, true, true, true, true, true, false, false, false, false] rfl rfl (by kernel_rfl) (fun _ _ _ h => h) (Or.inl ⟨by rfl, ?_⟩) ?_ ?_
          rotate_left
          · intro w'
            go_simp
            with_reducible rfl
          rotate_left
          · simp only [Act.put, List.setIfInBounds_toArray, List.set_cons_zero, List.set_cons_succ, i64_w, i32_w]
            rfl
          refine pure_ (i := 18) (N := some 101) (v := ?_) (a' := ?_) #[true, true, true, true, true, true, true, true, true, true, true, true, true, true, true, true, true, true, true, false, false, false] rfl rfl (by kernel_rfl) (fun _ _ _ h => h) (Or.inl ⟨by rfl, ?_⟩) ?_ ?_
          rotate_left
          · intro w'
            go_simp
            with_reducible rfl
          rotate_left
          · simp only [Act.put, List.setIfInBounds_toArray, List.set_cons_zero, List.set_cons_succ, i64_w, i32_w]
            rfl
          refine pure_ (i := 19) (N := some 102) (v := ?_) (a' := ?_) #[true, true, true, true, true, true, true, true, true, true, true, true, true, true, true, true, true, true, true, true, false, false] rfl rfl (by kernel_rfl) (fun _ _ _ h => h) (Or.inl ⟨by rfl, ?_⟩) ?_ ?_
          rotate_left
          · intro w'
            go_simp
            with_reducible rfl
          rotate_left
          · simp only [Act.put, List.setIfInBounds_toArray, List.set_cons_zero, List.set_cons_succ, i64_w, i32_w]
            rfl
          refine pure_ (i := 20) (N := some 103) (v := ?_) (a' := ?_) #[true, true, true, true, true, true, true, true, true, true, true, true, true, true, true, true, true, true, true, true, true, false] rfl rfl (by kernel_rfl) (fun _ _ _ h => h) (Or.inl ⟨by rfl, ?_⟩) ?_ ?_
          rotate_left
          · intro w'
            go_simp
            with_reducible rfl
          rotate_left
          · simp only [Act.put, List.setIfInBounds_toArray, List.set_cons_zero, List.set_cons_succ, i64_w, i32_w]
            rfl
          refine pure_ (i := 21) (N := some 104) (v := ?_) (a' := ?_) #[true, true, true, true, true, true, true, true, true, true, true, true, true, true, true, true, true, true, true, true, true, true] rfl rfl (by kernel_rfl) (fun _ _ _ h => h) (Or.inl ⟨by rfl, ?_⟩) ?_ ?_
          rotate_left
          · intro w'
            go_simp
            with_reducible rfl
          rotate_left
          · simp only [Act.put, List.setIfInBounds_toArray, List.set_cons_zero, List.set_cons_succ, i64_w, i32_w]
            rfl
          refine done_ (by kernel_rfl) ?_
          have HB14 := Aside0.mk (below_drew (Below.refl w16.heap.size w16))
          go_wp2_with fail
          go_roundw
          case rel => exact ⟨i + 1, n + 1, c16, A16, by go_num, rfl, by omega, by omega, ⟨below_step HBW.out HB14.out, HNM.out _ HB14.out⟩⟩
          case measure => simp [intOf]; omega
      · have e0 : (st != 0) = true := by simpa using hst
        have HF := Aside0.mk (ofeedA_any (HM.out.below H10.out.2.2) hst s)
        clear hst
        obtain ⟨qr, qd, qa, qg, qv⟩ := s
        dsimp only at HF d0 d1' d2 d3 d4
        go_upto_region 11 with ((with_reducible refine HF.out.mono ?_); rintro e11 w11 ⟨rfl, hb11⟩; have H11 := Aside0.mk (And.intro (H10.out.1.below hb11) (And.intro (Kd.R_below H10.out.2.1 hb11) (below_step H10.out.2.2 hb11))); clear hb11)
        clear d0 d1' d2 d3 d4
        go_upto_region 13 with ((with_reducible refine (HOR.out _ H11.out.2.2).mono ?_); rintro e12 w12 ⟨hb12, B13, c13, rfl, hr12⟩; have H12 := Aside0.mk (And.intro hb12 hr12); clear hb12 hr12)
        obtain ⟨b13, hb13⟩ : ∃ z, z = w12.heap.size := ⟨_, rfl⟩
        have hx := below_alloc (Below.refl w12.heap.size w12) (.cells #[.int .i64 vx, .int .i64 vy, .int .i64 vz, .slice B13 m c13] 83)
        have hq := Blk.new w12 [.int .i64 vx, .int .i64 vy, .int .i64 vz, .slice B13 m c13] 83
        rw [← hb13] at hq ⊢
        have hy := below_step H12.out.1 hx
        have H13 := Aside0.mk (And.intro hq (And.intro (Kd.R_below H12.out.2 hx) (And.intro (H11.out.1.below hy) (And.intro (Kd.R_below H11.out.2.1 hy) (below_step H11.out.2.2 hy)))))
        clear hx hq hb13 hy
        generalize w12.alloc (.cells #[.int .i64 vx, .int .i64 vy, .int .i64 vz, .slice B13 m c13] 83) = w13 at H13 ⊢
        have HFO : Aside0 (Calls Try.prog 52 #[.agg #[.int .i64 vx, .int .i64 vy, .int .i64 vz, .slice B10 m c10], .agg #[.int .i64 vx, .int .i64 vy, .int .i64 vz, .slice B13 m c13]] w13 fun e w' => e = .returned (.bool true) ∧ Below w13.heap.size w13 w') := ⟨by
          obtain ⟨_, _, e, _, hc⟩ := Kd.R_reads H13.out.2.2.2.1
          cases e
          obtain ⟨_, _, e, _, hc2⟩ := Kd.R_reads H13.out.2.1
          cases e
          exact found_yes w13 vx vy vz _ _ _ c10 c13 us hc hc2⟩
        have s0 := H13.out.2.2.1.at_ (i := 0) rfl
        have s1 := H13.out.2.2.1.at_ (i := 1) rfl
        have s2 := H13.out.2.2.1.at_ (i := 2) rfl
        have s3 := H13.out.2.2.1.at_ (i := 3) rfl
        have t0 := H13.out.1.at_ (i := 0) rfl
        have t1 := H13.out.1.at_ (i := 1) rfl
        have t2 := H13.out.1.at_ (i := 2) rfl
        have t3 := H13.out.1.at_ (i := 3) rfl
        have q2 : (st != st) = false := by simp
        go_wp2_with (first
          | ((with_reducible refine (HST.out _ H13.out.2.2.2.2).mono ?_); rintro e14 w14 ⟨rfl, rfl⟩)
          | ((with_reducible refine HFO.out.mono ?_); rintro e15 w15 ⟨rfl, hb15⟩; have HB15 := Aside0.mk (below_step H13.out.2.2.2.2 hb15); clear hb15))
        go_roundw
        case rel => exact ⟨i + 1, n, c, A7, by go_num, rfl, by omega, by omega, ⟨below_step HXX.out.1 HB15.out, (show AgM w.heap.size bt tol A7 n c wo from ⟨S, L, xs, st, us, HXX.out.2.1, HXX.out.2.2.1, HM.out, HXX.out.2.2.2.1, HXX.out.2.2.2.2.1, HXX.out.2.2.2.2.2⟩).below HB15.out⟩⟩
        case measure => simp [intOf]; omega
    · have hlti : ¬ (i : Int) < len := by omega
      obtain ⟨hB, S, L, xs, st, us, hnx, hAG, hO, hL, hS1, hS2⟩ := HI.out
      have HST := Aside0.mk (fun (W : World) (hW : Below wo.heap.size wo W) => ostate_any (hO.below hW))
      have HB := Aside0.mk hB
      by_cases h1 : st = 1
      case neg =>
        rcases hAG.s with h0 | h0 | h0
        · have hn7 : n < 8 := by rw [hnx]; exact hAG.t.h0 h0
          subst h0
          have e1 : ((0 : Int) != 1) = true := by decide
          have e2 : ((0 : Int) == 2) = false := by decide
          have e3 : ((n : Int) == 8) = false := by rw [beq_eq_false_iff_ne]; omega
          clear hB hnx hAG hO hL hS1 hS2 HI h1
          go_wp2_with (first
            | ((with_reducible refine (HST.out _ (Below.refl _ _)).mono ?_); rintro e14 w14 ⟨rfl, rfl⟩)
            | ((with_reducible refine (HAL.out _).mono ?_); rintro e w' ⟨rfl, hb2⟩; have HB2 := Aside0.mk (below_step HB.out hb2); clear hb2))
          rw [HP.out]
          exact ⟨rfl, HB2.out⟩
        · exact absurd h0 h1
        · have hn7 : n = 8 := by rw [hnx]; exact hAG.g2 h0
          subst h0
          have e1 : ((2 : Int) != 1) = true := by decide
          have e2 : ((2 : Int) == 2) = true := by decide
          have e3 : ((n : Int) == 8) = true := by rw [beq_iff_eq]; omega
          clear hB hnx hAG hO hL hS1 hS2 HI h1 hn7
          go_wp2_with (first
            | ((with_reducible refine (HST.out _ (Below.refl _ _)).mono ?_); rintro e14 w14 ⟨rfl, rfl⟩)
            | ((with_reducible refine (HAL.out _).mono ?_); rintro e w' ⟨rfl, hb2⟩; have HB2 := Aside0.mk (below_step HB.out hb2); clear hb2))
          rw [HP.out]
          exact ⟨rfl, HB2.out⟩
      subst h1
      have e1 : ((1 : Int) != 1) = false := by decide
      obtain ⟨g1, g2, g3, g4⟩ := hAG.g1 rfl
      have hul : us.length = n / 2 + 1 := by rw [g4, usedS_length g2 g1, hnx]
      have HUB : Aside0 (∀ k, k < us.length → ∃ U : Nat, us.getD k 0 = U ∧ U < n ∧ us.getD k 0 ∈ usedS xs) := ⟨fun k hk => by
        have hm : us.getD k 0 ∈ us := by rw [List.getD_eq_getElem?_getD, List.getElem?_eq_getElem hk]; exact List.getElem_mem _
        have := (hAG.t.h1 rfl).2.2 _ hm
        refine ⟨(us.getD k 0).toNat, by omega, by rw [hnx]; omega, by rw [← g4]; exact hm⟩⟩
      have HUL : Aside0 (∀ k j, k < j → j < us.length → us.getD k 0 < us.getD j 0) := ⟨fun k j hkj hj => by
        have := usedS_pw xs
        rw [← g4] at this
        rw [List.getD_eq_getElem?_getD, List.getD_eq_getElem?_getD, List.getElem?_eq_getElem (by omega), List.getElem?_eq_getElem hj]
        exact (List.pairwise_iff_getElem.1 this) k j (by omega) hj hkj⟩
      have HNU : Aside0 (∀ a b : Nat, (a : Int) ∈ usedS xs → (b : Int) ∈ usedS xs → nearP (rdQ xs a) (rdQ xs b) tol) := ⟨fun a b ha hb => by have := near_used hAG.t.hok g2 g1 g3 ha hb; rwa [Int.toNat_natCast, Int.toNat_natCast] at this⟩
      have HOK := Aside0.mk (fun j => rdQ_ok hAG.t.hok j)
      have HOR := Aside0.mk (oresult_any hO hAG.t)
      unfold OResPost at HOR
      rw [show rsE 1 = 0 from rfl] at HOR
      generalize rsV woolS 1 xs us = vx at HOR
      generalize rsV Sb.veg 1 xs us = vy at HOR
      generalize rsV Sb.raw 1 xs us = vz at HOR
      have hC : kQ.C wo A7 n xs := by
        obtain ⟨_, _, e, _, hc⟩ := Kd.R_reads hL
        cases e
        exact hc
      obtain ⟨al, eal, _⟩ := at_QB hC 0 (by omega)
      subst eal
      have HLC := Aside0.mk (fun j (hj : j < n) => at_QB hC j hj)
      obtain ⟨m, hm⟩ : ∃ z, z = us.length := ⟨_, rfl⟩
      rw [← hm] at HOR HUB HUL hul
      have HMU := Aside0.mk hm
      have hm8 : m ≤ 8 := by omega
      have hmn : ¬ (2 * (m : Int) ≤ n) := by omega
      have hw2 : IntKind.i64.wrap (2 * (m : Int)) = 2 * m := IntWalk.i64_in _ (by omega)
      have hn0 : 0 < n := by omega
      have hm0 : 0 < m := by omega
      clear hB hnx hAG hO hL hS1 hS2 HI g1 g2 g3 g4 hC hm hul
      go_upto_region 22 with (first
        | ((with_reducible refine (HST.out _ (Below.refl _ _)).mono ?_); rintro e8 w8 ⟨rfl, rfl⟩)
        | ((with_reducible refine HOR.out.mono ?_); rintro e9 w9 ⟨hb9, B15, c15, rfl, hr9⟩; have H9 := Aside0.mk (And.intro hb9 hr9); clear hb9 hr9))
      obtain ⟨b15, hb15⟩ : ∃ z, z = w9.heap.size := ⟨_, rfl⟩
      have hx := below_alloc (Below.refl w9.heap.size w9) (.cells #[.int .i64 vx, .int .i64 vy, .int .i64 vz, .slice B15 m c15] 83)
      have hq := Blk.new w9 [.int .i64 vx, .int .i64 vy, .int .i64 vz, .slice B15 m c15] 83
      rw [← hb15] at hq ⊢
      have H15 := Aside0.mk (And.intro hq (And.intro (Kd.R_below H9.out.2 hx) (below_step H9.out.1 hx)))
      clear hx hq hb15
      generalize w9.alloc (.cells #[.int .i64 vx, .int .i64 vy, .int .i64 vz, .slice B15 m c15] 83) = w15 at H15 ⊢
      have HC15 : Aside0 ((Kd.int .i64).C w15 B15 m us) := ⟨by
        obtain ⟨_, _, e, _, hc⟩ := Kd.R_reads H15.out.2.1
        cases e
        rw [← HMU.out] at hc
        exact hc⟩
      obtain ⟨au, rfl⟩ : ∃ au, B15 = some au := by
        obtain ⟨ad, e, _⟩ := Kd.at_int HC15.out (0 : Int) (by omega) (by omega)
        exact ⟨ad, e⟩
      have HCU : Aside0 (∀ W, Below w15.heap.size w15 W → ∀ k : Nat, k < m → W.cell? (au.add k) = some (.int .i64 (us.getD k 0))) := ⟨fun W hW k hk => by
        obtain ⟨ad, e, hc⟩ := Kd.at_int (Kd.C_below HC15.out hW) (k : Int) (by omega) (by omega)
        cases e
        rw [Int.toNat_natCast] at hc
        simpa [rd] using hc⟩
      have s3 := H15.out.1.at_ (i := 3) rfl
      go_wp2_with fail
      clear s3
      go_loopw [17, 18, 19, 20] (fun v17 _ _ _ wr => ∃ i2 : Nat, v17 = .int .i64 i2 ∧ i2 ≤ m ∧ Aside0 (Below w15.heap.size w15 wr)) (fun v17 _ _ _ _ => m - (intOf v17).toNat)
      case atStart => exact ⟨0, rfl, by omega, ⟨Below.refl _ _⟩⟩
      case round =>
        obtain ⟨i2, rfl, hi2, HJ⟩ := hrel
        have s3 := (H15.out.1.below HJ.out).at_ (i := 3) rfl
        by_cases him : i2 < m
        · have himi : (i2 : Int) < m := by omega
          go_upto_region 27 with fail
          go_wp2_with fail
          clear s3
          go_loopw [18, 19, 20] (fun v18 _ _ wr => ∃ k2 : Nat, v18 = .int .i64 k2 ∧ k2 ≤ i2 ∧ Aside0 (Below w15.heap.size w15 wr)) (fun v18 _ _ _ => i2 - (intOf v18).toNat)
          case atStart => exact ⟨0, rfl, by omega, HJ⟩
          case round =>
            obtain ⟨k2, rfl, hk2, HK⟩ := hrel
            by_cases hki : k2 < i2
            · have hkii : (k2 : Int) < i2 := by omega
              have hkm : (k2 : Int) < m := by omega
              obtain ⟨U1, hU1, hU1n, hU1m⟩ := HUB.out k2 (by omega)
              obtain ⟨U2, hU2, hU2n, hU2m⟩ := HUB.out i2 him
              have hUU := HUL.out k2 i2 hki him
              have c1 := HCU.out _ HK.out k2 (by omega)
              have c2 := HCU.out _ HK.out i2 him
              rw [hU1] at c1 hUU hU1m
              rw [hU2] at c2 hUU hU2m
              have HNP := Aside0.mk (HNU.out U1 U2 hU1m hU2m)
              have s3 := (H15.out.1.below HK.out).at_ (i := 3) rfl
              clear hU1 hU2 hU1m hU2m
              obtain ⟨al', eal, hc1⟩ := HLC.out U1 hU1n
              cases eal
              obtain ⟨al', eal, hc2⟩ := HLC.out U2 hU2n
              cases eal
              have HNR := Aside0.mk (fun W => near_any W (HOK.out U1) (HOK.out U2) tol HT.out)
              generalize rdQ xs U1 = x1 at hc1 HNR HNP
              generalize rdQ xs U2 = x2 at hc2 HNR HNP
              have HNB : Aside0 (∀ b : Bool, (b = true ↔ nearP x1 x2 tol) → b = true) := ⟨fun b h => h.2 HNP.out⟩
              obtain ⟨Rn, hRn⟩ : ∃ R, R = nearP x1 x2 tol := ⟨_, rfl⟩
              rw [← hRn] at HNR HNB
              obtain ⟨qr, qd, qa, qg, qv⟩ := x1
              obtain ⟨pr, pd, pa, pg, pv⟩ := x2
              dsimp only at hc1 hc2 HNR
              have HS31 := Aside0.mk (fun (W : World) (hW : Below w15.heap.size w15 W) => And.intro (Aside0.mk hW) (And.intro (hc1 W (below_step H15.out.2.2 hW)) (hc2 W (below_step H15.out.2.2 hW))))
              have u1 : (0 : Int) ≤ U1 := by omega
              have u2 : (U1 : Int) < U2 := hUU
              have u3 : (U2 : Int) < n := by omega
              have u4 : (U1 : Int) < n := by omega
              have f1 : decide ((U1 : Int) < 0) = false := decide_eq_false (by omega)
              have f2 : decide ((U2 : Int) ≥ n) = false := decide_eq_false (by omega)
              have f3 : decide ((U1 : Int) ≥ U2) = false := decide_eq_false (by omega)
              have f4 : decide (n ≤ U2) = false := decide_eq_false (by omega)
              have f5 : decide (U2 ≤ U1) = false := decide_eq_false (by omega)
              have f6 : decide ((n : Int) ≤ U2) = false := decide_eq_false (by omega)
              have f7 : decide ((U2 : Int) ≤ U1) = false := decide_eq_false (by omega)
              clear hc1 hc2 hRn HNP hUU
              go_upto_region 30 with fail
              go_quiet (fail)
              go_wp2_with fail
              clear s3 c1 c2
              have HK2 := Aside0.mk (below_drewN HK.out nq)
              generalize wr.drewN nq = wk at HK2 ⊢
              go_region_held3 (fun W => Aside0 (Below w15.heap.size w15 W) ∧ (W.cell? (al.add (U1 * 5)) = some (.int .i64 qr) ∧ W.cell? ⟨(al.add (U1 * 5)).block, (al.add (U1 * 5)).off + 1, none⟩ = some (.int .i64 qd) ∧ W.cell? ⟨(al.add (U1 * 5)).block, (al.add (U1 * 5)).off + 2, none⟩ = some (.int .i64 qa) ∧ W.cell? ⟨(al.add (U1 * 5)).block, (al.add (U1 * 5)).off + 3, none⟩ = some (.int .i64 qg) ∧ W.cell? ⟨(al.add (U1 * 5)).block, (al.add (U1 * 5)).off + 4, none⟩ = some (.int .i64 qv)) ∧ W.cell? (al.add (U2 * 5)) = some (.int .i64 pr) ∧ W.cell? ⟨(al.add (U2 * 5)).block, (al.add (U2 * 5)).off + 1, none⟩ = some (.int .i64 pd) ∧ W.cell? ⟨(al.add (U2 * 5)).block, (al.add (U2 * 5)).off + 2, none⟩ = some (.int .i64 pa) ∧ W.cell? ⟨(al.add (U2 * 5)).block, (al.add (U2 * 5)).off + 3, none⟩ = some (.int .i64 pg) ∧ W.cell? ⟨(al.add (U2 * 5)).block, (al.add (U2 * 5)).off + 4, none⟩ = some (.int .i64 pv))
                ((refine HS31.out _ ?_; repeat (with_reducible (first | exact HK2.out | exact HB14.out | exact hbT (by assumption) | refine below_drew ?_))))
                (first
                  | ((with_reducible refine (HNR.out _).mono ?_); rintro e14 w14 ⟨⟨bn, rfl, hbn⟩, hb14⟩; have HB14 := Aside0.mk (below_step (hbT (by assumption)) hb14); have q3 := HNB.out bn hbn; clear hb14 hbn))
              go_wp2_with fail
              go_roundw
              case rel => exact ⟨k2 + 1, by go_num, by omega, HB14⟩
              case measure => simp [intOf]; omega
            · have hkii : ¬ (k2 : Int) < i2 := by omega
              go_wp2_with fail
              go_roundw
              case rel => exact ⟨i2 + 1, by go_num, by omega, HK⟩
              case measure => simp [intOf]; omega
        · have himi : ¬ (i2 : Int) < m := by omega
          have HB22 := Aside0.mk (below_step HB.out (below_step H15.out.2.2 HJ.out))
          go_wp2_with ((with_reducible refine (HAL.out _).mono ?_); rintro e w' ⟨rfl, hb2⟩; have HB2 := Aside0.mk (below_step HB22.out hb2); clear hb2)
          rw [HP.out]
          exact ⟨rfl, HB2.out⟩
end Go.Proofs.Ythkfahkkcjagdaa

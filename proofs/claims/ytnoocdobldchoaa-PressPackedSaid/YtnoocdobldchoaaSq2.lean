/- The comparison of two dumps by Johnson's rule, and the insertion sort by whatever comparison. -/
import Derived.Test.YtnoocdobldchoaaSq1
import Derived.Deep.RegionWith
namespace Go.Proofs.Ytnoocdobldchoaa
open Go.RowKit Go.Proofs.YtnoocdobldchoaaW.PrintWords Go.Proofs.YtnoocdobldchoaaW.PrintMore Go.Proofs.YtnoocdobldchoaaW.PrintLast

/-- Johnson's comparison of two dumps. -/
def jcmp (a b : Int × Int) : Int :=
  if a.1 ≤ a.2 then (if b.1 ≤ b.2 then cmpI a.1 b.1 else -1) else if b.1 ≤ b.2 then 1 else cmpI b.2 a.2

section
variable (w : World) (c0 c1 : Array Value) (t0 t1 : TypeId)
theorem h2_0 : ((w.alloc (.cells c0 t0)).alloc (.cells c1 t1)).drew.heap[w.heap.size]? = some (.cells c0 t0 (0, 0)) := by
  show ((w.heap.push _).push _)[w.heap.size]? = _
  simp only [Array.getElem?_push, Array.size_push]
  repeat (first | rw [if_neg (by omega)] | rw [if_pos rfl] | rw [if_pos trivial])
theorem h2_1 : ((w.alloc (.cells c0 t0)).alloc (.cells c1 t1)).drew.heap[w.heap.size + 1]? = some (.cells c1 t1 (0, 0)) := by
  show ((w.heap.push _).push _)[w.heap.size + 1]? = _
  simp only [Array.getElem?_push, Array.size_push]
  repeat (first | rw [if_neg (by omega)] | rw [if_pos rfl] | rw [if_pos trivial])
theorem h2_b : Below w.heap.size w ((w.alloc (.cells c0 t0)).alloc (.cells c1 t1)).drew := below_drew (below_alloc (below_alloc (Below.refl _ _) _) _)
end

set_option maxHeartbeats 4000000 in
theorem jcmp_any (w : World) (A : Option Addr) (c b : Nat) (ds : List (Int × Int)) (h : kP.C w A ds.length ds) (hb : w.cell? ⟨b, 0, none⟩ = some (.slice A ds.length c)) (x y : Int) (hx : 0 ≤ x ∧ x < ds.length) (hy : 0 ≤ y ∧ y < ds.length) :
    Calls Try.prog 60 #[.int .i64 x, .int .i64 y, .pointer (some ⟨b, 0, none⟩)] w fun e w' => e = .returned (.int .i64 (jcmp (rdP ds x) (rdP ds y))) ∧ Below w.heap.size w w' := by
  obtain ⟨ad, e1, g1, g2⟩ := at_P h x hx.1 hx.2
  obtain ⟨ad2, e2, k1, k2⟩ := at_P h y hy.1 hy.2
  subst e1
  cases e2
  clear h
  obtain ⟨hx1, hx2⟩ := hx
  obtain ⟨hy1, hy2⟩ := hy
  generalize rdP ds x = p at *
  generalize rdP ds y = q at *
  obtain ⟨x1, x2⟩ := p
  obtain ⟨y1, y2⟩ := q
  dsimp only at g1 g2 k1 k2
  have al : ∀ {a : Addr} {v : Value} {W : World}, W.cell? a = some v → ∀ o, (W.alloc o).cell? a = some v := fun {a v W} h o => (World.cell?_alloc_lt W o a (World.block_lt_of_cell? W a h)).trans h
  have g1a := al g1
  have g2a := al g2
  have k1a := al k1
  have k2a := al k2
  have hba := al hb
  have g1b := fun o => al (g1a o)
  have g2b := fun o => al (g2a o)
  have k1b := fun o => al (k1a o)
  have k2b := fun o => al (k2a o)
  have hbb := fun o => al (hba o)
  clear al
  go_enter Try.func60, Try.ntmps60
  go_upto_region 1 with fail
  go_cut [6, 7] from 10 to 17 (fun a b w1 => ∃ p q : Nat, a = .pointer (some ⟨p, 0, none⟩) ∧ b = .pointer (some ⟨q, 0, none⟩) ∧ Aside0 (w1.heap[p]? = some (.cells #[.int .i64 x1, .int .i64 x2] 55 (0, 0)) ∧ w1.heap[q]? = some (.cells #[.int .i64 y1, .int .i64 y2] 55 (0, 0)) ∧ Below w.heap.size w w1))
  case first =>
    go_region
    all_goals go_wp2_with fail
    all_goals go_meet
    all_goals (case rel => exact ⟨_, _, rfl, rfl, ⟨by first | exact h2_0 .. | exact h2_1 .., by first | exact h2_0 .. | exact h2_1 .., h2_b ..⟩⟩)
  case rest =>
  obtain ⟨p, q, rfl, rfl, ⟨hp, hq, hbw⟩⟩ := hcut
  have B := Aside0.mk hbw; clear hbw
  have bp : Blk wc p [.int .i64 x1, .int .i64 x2] 55 := hp
  have bq : Blk wc q [.int .i64 y1, .int .i64 y2] 55 := hq
  have f1 := bp.at_ (i := 0) rfl
  have f2 := bp.at_ (i := 1) rfl
  have f3 := bq.at_ (i := 0) rfl
  have f4 := bq.at_ (i := 1) rfl
  clear bp bq hp hq g1 g2 k1 k2 hb g1a g2a k1a k2a hba g1b g2b k1b k2b hbb
  have hc := Aside0.mk (fun W => compare_any W)
  have HJ : Aside0 (jcmp (x1, x2) (y1, y2) = if x1 ≤ x2 then (if y1 ≤ y2 then cmpI x1 y1 else -1) else if y1 ≤ y2 then 1 else cmpI y2 x2) := ⟨rfl⟩
  by_cases c1 : x1 ≤ x2
  · have d1 : decide (x1 ≤ x2) = true := by simpa using c1
    by_cases c2 : y1 ≤ y2
    · have d2 : decide (y1 ≤ y2) = true := by simpa using c2
      go_wp2_with fail
      go_quiet (fail)
      go_wp2_with ((with_reducible refine (hc.out _ _ _).mono ?_); rintro e w' ⟨rfl, rfl⟩)
      go_ret
      exact ⟨ret_int (by rw [HJ.out, if_pos (by omega), if_pos (by omega)]), below_step B.out (bdN _ _)⟩
    · have d2 : decide (y1 ≤ y2) = false := by simpa using c2
      go_wp2_with fail
      go_quiet (fail)
      go_wp2_with fail
      go_ret
      exact ⟨ret_int (by rw [HJ.out, if_pos (by omega), if_neg (by omega)]), below_step B.out (bdN _ _)⟩
  · have d1 : decide (x1 ≤ x2) = false := by simpa using c1
    by_cases c2 : y1 ≤ y2
    · have d2 : decide (y1 ≤ y2) = true := by simpa using c2
      go_wp2_with fail
      go_quiet (fail)
      go_wp2_with fail
      go_ret
      exact ⟨ret_int (by rw [HJ.out, if_neg (by omega), if_pos (by omega)]), below_step B.out (bdN _ _)⟩
    · have d2 : decide (y1 ≤ y2) = false := by simpa using c2
      go_wp2_with fail
      go_quiet (fail)
      go_wp2_with ((with_reducible refine (hc.out _ _ _).mono ?_); rintro e w' ⟨rfl, rfl⟩)
      go_ret
      exact ⟨ret_int (by rw [HJ.out, if_neg (by omega), if_neg (by omega)]), below_step B.out (bdN _ _)⟩
end Go.Proofs.Ytnoocdobldchoaa

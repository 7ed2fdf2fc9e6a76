/- Texts of this claim and words of the kit's print, trimmed to what it uses and joined. -/
import Derived.Test.YthkfahkkcjagdaaZhE
import Derived.Test.YthkfahkkcjagdaaZhD1
section
namespace Go.Proofs.Ythkfahkkcjagdaa
open Go.RowKit Go.Proofs.YthkfahkkcjagdaaW.PrintWords Go.Proofs.YthkfahkkcjagdaaW.PrintMore Go.Proofs.YthkfahkkcjagdaaW.PrintLast

theorem lines_any (w : World) (A : Option Addr) (c : Nat) (fs : List Fl) (h : kF.C w A fs.length fs) (hk : KOK fs) (l least p : Int) :
    Calls Try.prog 19 #[.slice A fs.length c, .agg #[.int .i64 l, .int .i64 least, .int .i64 p]] w (LinesPost w fs l least p) := by
  by_cases hE : errE fs l least p = 0
  · exact lines_good w A c fs h hk l least p hE
  · exact lines_bad w A c fs h hk l least p hE
theorem flat_fcs_get (fs : List Fl) : ∀ (j i : Nat) (f : Fl) (u : Value), fs[j]? = some f → (fcs f)[i]? = some u → (fs.flatMap fcs)[j * 6 + i]? = some u := by
  induction fs with
  | nil => intro j i f u h; simp at h
  | cons a fs ih =>
    intro j i f u h1 h2
    have hi : i < 6 := (List.getElem?_eq_some_iff.1 h2).1
    rw [List.flatMap_cons]
    cases j with
    | zero =>
      rw [List.getElem?_cons_zero] at h1
      cases h1
      rw [Nat.zero_mul, Nat.zero_add, List.getElem?_append_left (by show i < 6; exact hi)]
      exact h2
    | succ j =>
      rw [List.getElem?_cons_succ] at h1
      rw [List.getElem?_append_right (by show 6 ≤ _; omega)]
      have e : (j + 1) * 6 + i - (fcs a).length = j * 6 + i := by show (j + 1) * 6 + i - 6 = _; omega
      rw [e]
      exact ih j i f u h1 h2
theorem Blk.fl_C {w : World} {g : Nat} {fs : List Fl} {t : TypeId} (h : Blk w g (fs.flatMap fcs) t) (hl : fs.length ≤ 9223372036854775807) : kF.C w (some ⟨g, 0, none⟩) fs.length fs := by
  refine ⟨rfl, hl, fun _ => ⟨_, rfl, fun j f hf => ⟨fcs f, ?_, rfl, fun i u hu => ?_⟩⟩⟩
  · rfl
  · rw [add_plain]
    show w.cell? ⟨g, j * 6 + i, none⟩ = _
    exact h.at_ (flat_fcs_get fs j i f u hf hu)
def F3 : List Fl := [⟨0, 0, 0, 0, 1900, 1⟩, ⟨0, 0, 0, 0, 1910, 1⟩, ⟨0, 0, 0, 0, 2300, 1⟩]
theorem F3_ok : KOK F3 := by
  intro f hf
  simp only [F3, List.mem_cons, List.not_mem_nil, or_false] at hf
  rcases hf with rfl | rfl | rfl <;> exact ⟨⟨by decide, by decide⟩, ⟨by decide, by decide⟩, ⟨by decide, by decide⟩, by decide, by decide⟩
theorem F3_err : errE F3 2 0 10000 = 0 := by decide
theorem F3_best : bestF (sF F3 (ordF F3)) 0 10000 3 (bestK (sF F3 (ordF F3)) 0 10000 3 2) = 10 := by decide +kernel
theorem F3_plan : planF (sF F3 (ordF F3)) 0 10000 3 (bestK (sF F3 (ordF F3)) 0 10000 3 2) 0 = [(0, 2), (2, 1)] := by decide +kernel
theorem F3_cen : (erowF (sF F3 (ordF F3)) 10000 3 2).getD (2 + 1) 0 = 2300 := by decide +kernel
theorem alive_yield : yieldF 1 600 20 1000 = 7402 ∧ yieldE 1 600 20 1000 = 0 := by decide
theorem alive_lines (w : World) (g0 : Nat) (hb : Blk w g0 (F3.flatMap fcs) 44) :
    Calls Try.prog 19 #[.slice (some ⟨g0, 0, none⟩) 3 3, .agg #[.int .i64 2, .int .i64 0, .int .i64 10000]] w fun e w' => ∃ g cap : Nat, e = .returned (.tuple #[.slice (some ⟨g, 0, none⟩) 2 cap, .int .i64 10, .int .i64 0]) ∧ w'.cell? ⟨g, 14, none⟩ = some (.int .i64 2300) ∧ Below w.heap.size w w' := by
  refine (lines_any w (some ⟨g0, 0, none⟩) 3 F3 (hb.fl_C (by decide)) F3_ok 2 0 10000).mono ?_
  rintro e w' ⟨h1, h2⟩
  rw [if_pos F3_err] at h2
  have e3 : F3.length = 3 := rfl
  have e2 : (2 : Int).toNat = 2 := rfl
  rw [e3, e2, F3_best, if_pos (by decide), F3_plan] at h2
  obtain ⟨v, ls, rfl, h3, h4⟩ := h2
  match ls, h4, h3 with
  | [(g0', c0, i0, d0), (g1, c1, i1, d1)], h4, h3 =>
    simp only [List.map_cons, List.map_nil, List.cons.injEq, Prod.mk.injEq, and_true] at h4
    obtain ⟨⟨rfl, rfl⟩, rfl, rfl⟩ := h4
    rcases h3.v.2 with ⟨_, h0⟩ | ⟨g, cap, cur, rfl, hg, hh, hc1, hc2, hc3, hc4⟩
    · simp at h0
    · refine ⟨g, cap, rfl, ?_, h1⟩
      have h5 := congrArg (fun l => l[14]?) hc4
      rw [List.getElem?_take, if_pos (by show 14 < 2 * 8; decide), Array.getElem?_toList] at h5
      have h6 : (([(g0', c0, 0, 2), (g1, c1, 2, 1)] : List (Nat × Nat × Nat × Nat)).flatMap (lcs (sF F3 (ordF F3)) 0 10000 3))[14]? = some (.int .i64 ((erowF (sF F3 (ordF F3)) 10000 3 2).getD (2 + 1) 0)) := rfl
      rw [h6, F3_cen] at h5
      simp [World.cell?, hh, h5]

set_option maxHeartbeats 4000000 in
theorem alive_any (w : World) : Calls Try.prog 18 #[] w fun e w' => e = .returned (.bool true) ∧ Below w.heap.size w w' := by
  have hy := yield_any w 1 600 20 1000 ⟨⟨by decide, by decide⟩, by decide, by decide⟩
  rw [alive_yield.1, alive_yield.2] at hy
  have HY := Aside0.mk hy; clear hy
  have HL := Aside0.mk (fun (W : World) => alive_lines (W.alloc (.cells #[.int .u8 0, .int .u8 0, .int .u8 0, .int .u8 0, .int .i64 1900, .int .i64 1, .int .u8 0, .int .u8 0, .int .u8 0, .int .u8 0, .int .i64 1910, .int .i64 1, .int .u8 0, .int .u8 0, .int .u8 0, .int .u8 0, .int .i64 2300, .int .i64 1] 44)) W.heap.size (Blk.new W (F3.flatMap fcs) 44))
  go_enter Try.func18, Try.ntmps18
  go_upto_region 2 with ((with_reducible refine HY.out.mono ?_); rintro e5 w5 ⟨rfl, hb5⟩; have HB5 := Aside0.mk hb5; clear hb5)
  go_upto_region 3 with ((with_reducible refine (HL.out _).mono ?_); rintro e6 w6 ⟨g, cap, rfl, hc6, hb6⟩; have HB6 := Aside0.mk (below_step (below_alloc HB5.out _) hb6); clear hb6)
  go_wp2_with fail
  go_ret
  exact ⟨rfl, HB6.out⟩
end Go.Proofs.Ythkfahkkcjagdaa
end

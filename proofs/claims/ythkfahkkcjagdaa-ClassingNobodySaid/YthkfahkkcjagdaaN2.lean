/- What ClassingNobody answers: its walk. -/
import Derived.Test.YthkfahkkcjagdaaN1
import Derived.Deep.DeepCutAuto
namespace Go.Proofs.Ythkfahkkcjagdaa
open Go.RowKit Go.Proofs.YthkfahkkcjagdaaW.PrintWords Go.Proofs.YthkfahkkcjagdaaW.PrintMore Go.Proofs.YthkfahkkcjagdaaW.PrintLast

theorem found_no (w : World) :
    Calls Try.prog 52 #[.agg #[.int .i64 0, .int .i64 0, .int .i64 0, .slice none 0 0], .agg #[.int .i64 0, .int .i64 0, .int .i64 0, .slice none 0 0]] w fun x w' => x = .returned (.bool true) ∧ Below w.heap.size w w' := by
  have hb := below_alloc (below_alloc (Below.refl w.heap.size w) (.cells #[.int .i64 0, .int .i64 0, .int .i64 0, .slice none 0 0] 83)) (.cells #[.int .i64 0, .int .i64 0, .int .i64 0, .slice none 0 0] 83)
  have HB := Aside0.mk hb; clear hb
  have HS := Aside0.mk (fun (W : World) => same_yes_C W none none 0 0 0 [] (nil_C W) (nil_C W))
  go_enter Try.func52, Try.ntmps52
  go_wp2_with ((with_reducible refine (HS.out _).mono ?_); rintro e w' ⟨rfl, hb2⟩; have HB2 := Aside0.mk (below_step HB.out hb2); clear hb2)
  go_ret
  exact ⟨rfl, HB2.out⟩
set_option maxHeartbeats 4000000 in
theorem nobody_any (w : World) (a b c d e : Int) (pl : Bool) :
    Calls Try.prog 14 #[.agg #[.int .i64 a, .int .i64 b, .int .i64 c, .int .i64 d, .int .i64 e], .bool pl] w fun x w' => x = .returned (.bool true) ∧ Below w.heap.size w w' := by
  have hb := below_alloc (Below.refl w.heap.size w) (.cells #[.int .i64 a, .int .i64 b, .int .i64 c, .int .i64 d, .int .i64 e] 55)
  have HAL := Aside0.mk alive_any
  have HFO := Aside0.mk found_no
  cases pl with
  | false =>
    have HB := Aside0.mk hb; clear hb
    have HF := Aside0.mk (fun (W : World) => feed_no W none (.inl rfl) a b c d e)
    have HR := Aside0.mk (fun (W : World) => result_no W none (.inl rfl))
    have HST := Aside0.mk (fun (W : World) => state_no W none (.inl rfl))
    have HN := Aside0.mk (fun (W : World) => need_no W none (.inl rfl))
    go_enter Try.func14, Try.ntmps14
    go_upto_region 5 with ((with_reducible refine (HF.out _).mono ?_); rintro e w5 ⟨rfl, hb5⟩; have HB5 := Aside0.mk (below_step HB.out hb5); clear hb5)
    go_upto_region 6 with ((with_reducible refine (HR.out _).mono ?_); rintro e w6 ⟨rfl, hb6⟩; have HB6 := Aside0.mk (below_step HB5.out hb6); clear hb6)
    go_wp2_with (first | ((with_reducible refine (HFO.out _).mono ?_); rintro e w7 ⟨rfl, hb7⟩; have HB7 := Aside0.mk (below_step (below_alloc HB6.out _) hb7); clear hb7) | ((with_reducible refine (HST.out _).mono ?_); rintro e w8 ⟨rfl, rfl⟩) | ((with_reducible refine (HN.out _).mono ?_); rintro e w8 ⟨rfl, rfl⟩) | ((with_reducible refine (HAL.out _).mono ?_); rintro e w9 ⟨rfl, hb9⟩; have HB9 := Aside0.mk (below_step HB7.out hb9); clear hb9))
    go_ret
    exact ⟨rfl, HB9.out⟩
  | true =>
    have hb2 := below_alloc hb (.cells #[.bool false, .int .i64 0, .int .i64 0, .slice none 0 0, .slice none 0 0] 80)
    have hq := Blk.new (w.alloc (.cells #[.int .i64 a, .int .i64 b, .int .i64 c, .int .i64 d, .int .i64 e] 55)) [.bool false, .int .i64 0, .int .i64 0, .slice none 0 0, .slice none 0 0] 80
    have es : (w.alloc (.cells #[.int .i64 a, .int .i64 b, .int .i64 c, .int .i64 d, .int .i64 e] 55)).heap.size = w.heap.size + 1 := by simp
    rw [es] at hq
    have HB := Aside0.mk hb2
    have HQ := Aside0.mk hq
    clear hb hb2 hq es
    have hno : ∀ W : World, Below ((w.alloc (.cells #[.int .i64 a, .int .i64 b, .int .i64 c, .int .i64 d, .int .i64 e] 55)).alloc (.cells #[.bool false, .int .i64 0, .int .i64 0, .slice none 0 0, .slice none 0 0] 80)).heap.size ((w.alloc (.cells #[.int .i64 a, .int .i64 b, .int .i64 c, .int .i64 d, .int .i64 e] 55)).alloc (.cells #[.bool false, .int .i64 0, .int .i64 0, .slice none 0 0, .slice none 0 0] 80)) W → NoT W (some ⟨w.heap.size + 1, 0, none⟩) := fun W hW => .inr ⟨_, rfl, HQ.out.below hW⟩
    have HNO := Aside0.mk hno; clear hno
    have HF := Aside0.mk (fun (W : World) (h : NoT W (some ⟨w.heap.size + 1, 0, none⟩)) => feed_no W _ h a b c d e)
    have HR := Aside0.mk (fun (W : World) (h : NoT W (some ⟨w.heap.size + 1, 0, none⟩)) => result_no W _ h)
    have HST := Aside0.mk (fun (W : World) (h : NoT W (some ⟨w.heap.size + 1, 0, none⟩)) => state_no W _ h)
    have HN := Aside0.mk (fun (W : World) (h : NoT W (some ⟨w.heap.size + 1, 0, none⟩)) => need_no W _ h)
    go_enter Try.func14, Try.ntmps14
    go_upto_region 5 with ((with_reducible refine (HF.out _ ?hh).mono ?_); (case hh => exact HNO.out _ (Below.refl _ _)); rintro e w5 ⟨rfl, hb5⟩; have HB5 := Aside0.mk (below_step HB.out hb5); have HO5 := Aside0.mk (HNO.out _ hb5); clear hb5)
    go_upto_region 6 with ((with_reducible refine (HR.out _ HO5.out).mono ?_); rintro e w6 ⟨rfl, hb6⟩; have HB6 := Aside0.mk (below_step HB5.out hb6); have HO6 := Aside0.mk (NoT.below (HO5.out.below hb6) (below_alloc (Below.refl _ _) (.cells #[.int .i64 0, .int .i64 0, .int .i64 0, .slice none 0 0] 83))); clear hb6)
    go_wp2_with (first | ((with_reducible refine (HFO.out _).mono ?_); rintro e w7 ⟨rfl, hb7⟩; have HB7 := Aside0.mk (below_step (below_alloc HB6.out _) hb7); have HO7 := Aside0.mk (HO6.out.below hb7); clear hb7) | ((with_reducible refine (HST.out _ HO7.out).mono ?_); rintro e w8 ⟨rfl, rfl⟩) | ((with_reducible refine (HN.out _ HO7.out).mono ?_); rintro e w8 ⟨rfl, rfl⟩) | ((with_reducible refine (HAL.out _).mono ?_); rintro e w9 ⟨rfl, hb9⟩; have HB9 := Aside0.mk (below_step HB7.out hb9); clear hb9))
    go_ret
    exact ⟨rfl, HB9.out⟩
end Go.Proofs.Ythkfahkkcjagdaa

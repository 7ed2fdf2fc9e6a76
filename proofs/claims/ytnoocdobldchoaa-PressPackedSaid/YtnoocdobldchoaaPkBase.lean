/- The copy of a list, and the program's bound with its checks. -/
import Derived.Test.YtnoocdobldchoaaPkAssign
namespace Go.Proofs.Ytnoocdobldchoaa
open Go.RowKit Go.Proofs.YtnoocdobldchoaaW.PrintWords Go.Proofs.YtnoocdobldchoaaW.PrintMore Go.Proofs.YtnoocdobldchoaaW.PrintLast

set_option maxHeartbeats 1000000 in
theorem pBound_any (w : World) (A : Option Addr) (c : Nat) (ms : List Int) (most : Int) (h : (Kd.int .i64).C w A ms.length ms) :
    Calls Try.prog 20 #[.slice A ms.length c, .int .i64 most] w fun e w' => e = .returned (.tuple #[.int .i64 (if thingsE ms most 1 = 0 then boundF ms most else 0), .int .i64 (thingsE ms most 1)]) ∧ Below w.heap.size w w' := by
  have hbx := Aside0.mk (things_any w A c ms most 1 h)
  have HRM := Aside0.mk h; clear h
  obtain ⟨e0, he0⟩ : ∃ z, z = thingsE ms most 1 := ⟨_, rfl⟩
  rw [← he0] at hbx ⊢
  by_cases hz : e0 = 0
  · rw [if_pos hz]
    obtain ⟨hms, ⟨hm0, hm1⟩, _, hle⟩ := MOK.of_E (he0.symm.trans hz)
    clear he0 hle
    subst hz
    have HMS := Aside0.mk hms; clear hms
    obtain ⟨b0, hb0⟩ : ∃ z, z = boundF ms most := ⟨_, rfl⟩
    rw [← hb0]
    have HB0 := Aside0.mk hb0; clear hb0
    go_enter Try.func20, Try.ntmps20
    go_upto_region 2 with ((with_reducible refine hbx.out.mono ?_); rintro e5 w5 ⟨rfl, hb5⟩)
    have hc := Aside0.mk (bound_any w5 A c ms most (Kd.C_below HRM.out hb5) HMS.out hm0 hm1)
    rw [← HB0.out] at hc
    go_wp2_with ((with_reducible refine hc.out.mono ?_); rintro e6 w6 ⟨rfl, hb6⟩)
    go_ret2
    exact ⟨rfl, below_step hb5 hb6⟩
  · rw [if_neg hz]
    have hzb : (e0 != 0) = true := by simp [hz]
    clear he0
    go_enter Try.func20, Try.ntmps20
    go_wp2_with ((with_reducible refine hbx.out.mono ?_); rintro e5 w5 ⟨rfl, hb5⟩)
    go_ret2
    exact ⟨rfl, hb5⟩

set_option maxHeartbeats 1000000 in
/-- A copy of a list: in memory of its own. -/
theorem copied_any (w : World) (A : Option Addr) (c : Nat) (xs : List Int) (h : (Kd.int .i64).C w A xs.length xs) (hl : xs.length ≤ 100000) :
    Calls Try.prog 16 #[.slice A xs.length c] w fun e w' => ∃ g, e = .returned (.slice (some ⟨g, 0, none⟩) xs.length xs.length) ∧ Below w.heap.size w w' ∧ Blk w' g (ints xs) 3 := by
  have mk1 := print_make (P := Try.prog) 22 3 .i64 8 Try.underlying22 info3 (by decide) xs.length (by omega)
  have HR := Aside0.mk h; clear h
  go_enter Try.func16, Try.ntmps16
  go_upto_region 2 with fail
  clear mk1
  have b1 := below_alloc (Below.refl w.heap.size w) (.cells (madeCells #[.int .i64 0] xs.length) 3)
  have g1 : Blk (w.alloc (.cells (madeCells #[.int .i64 0] xs.length) 3)) w.heap.size (ints (List.replicate xs.length 0)) 3 := by
    rw [made_ints]; exact Blk.new _ _ _
  obtain ⟨w1, hw1⟩ : ∃ z, z = w.alloc (.cells (madeCells #[.int .i64 0] xs.length) 3) := ⟨_, rfl⟩
  rw [← hw1] at b1 g1 ⊢
  have B1 := Aside0.mk b1; clear b1
  have G1 := Aside0.mk g1; clear g1 hw1
  go_wp2_with fail
  go_loopw [4] (fun v wr => ∃ i : Int, v = .int .i64 i ∧ 0 ≤ i ∧ i ≤ xs.length ∧ Aside0 (Below w.heap.size w wr) ∧ Aside0 (Blk wr w.heap.size (ints (xs.take i.toNat ++ List.replicate (xs.length - i.toNat) 0)) 3)) (fun v _ => xs.length - (intOf v).toNat)
  case atStart => exact ⟨0, rfl, by omega, by omega, B1, ⟨by simpa using G1.out⟩⟩
  case round =>
    obtain ⟨i, rfl, h0, h1, hb, hg⟩ := hrel
    by_cases hlt : i < xs.length
    · have hC := Kd.C_below HR.out hb.out
      obtain ⟨ad, e1, g3⟩ := Kd.at_int hC i h0 hlt
      subst e1
      have hil : i.toNat < (xs.take i.toNat ++ List.replicate (xs.length - i.toNat) 0).length := by simp; omega
      have f1 := hg.out.at_ (ints_get _ hil)
      have f2 := hg.out.free i.toNat
      go_wp2_with fail
      go_roundw
      case rel =>
        refine ⟨i + 1, by go_num, by omega, by omega, ⟨hb.out.setCell (Nat.le_refl _) _⟩, ⟨?_⟩⟩
        have := hg.out.set i.toNat (.int .i64 (rd xs i))
        rw [ints_set] at this
        have e2 : (xs.take i.toNat ++ List.replicate (xs.length - i.toNat) 0).set i.toNat (rd xs i) = xs.take (i + 1).toNat ++ List.replicate (xs.length - (i + 1).toNat) 0 := by
          rw [List.set_append_right _ _ (by rw [List.length_take]; omega)]
          rw [show (i + 1).toNat = i.toNat + 1 by omega, List.take_succ_eq_append_getElem (by omega), show xs.length - i.toNat = (xs.length - (i.toNat + 1)) + 1 by omega, List.replicate_succ]
          rw [List.length_take, show i.toNat - min i.toNat xs.length = 0 by omega, List.set_cons_zero, List.append_assoc]
          simp [rd, List.getD_eq_getElem?_getD, List.getElem?_eq_getElem (show i.toNat < xs.length by omega)]
        rwa [e2] at this
      case measure => simp [intOf]; omega
    · go_wp2_with fail
      go_ret
      refine ⟨_, rfl, hb.out, ?_⟩
      have := hg.out
      rw [show i.toNat = xs.length by omega, List.take_length, Nat.sub_self] at this
      simpa using this
end Go.Proofs.Ytnoocdobldchoaa

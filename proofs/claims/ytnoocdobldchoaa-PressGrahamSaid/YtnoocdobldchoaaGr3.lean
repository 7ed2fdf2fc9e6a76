/- What PressGraham answers. -/
import Derived.Test.YtnoocdobldchoaaF1
import Derived.Test.YtnoocdobldchoaaE2
namespace Go.Proofs.Ytnoocdobldchoaa
open Go.RowKit Go.Proofs.YtnoocdobldchoaaW.PrintWords Go.Proofs.YtnoocdobldchoaaW.PrintMore Go.Proofs.YtnoocdobldchoaaW.PrintLast

theorem graham_bad (w : World) (A B : Option Addr) (c d n3 : Nat) (ts : List Int) (p : Int) (h : (Kd.int .i64).C w A ts.length ts) (he : worksE ts p ≠ 0) :
    Calls Try.prog 7 #[.slice A ts.length c, .int .i64 p, .slice B n3 d] w fun e w' => e = .returned (.bool true) ∧ Below w.heap.size w w' := by
  have hp0 : Calls Try.prog 23 #[.slice A ts.length c, .int .i64 p] w fun e w' => ∃ A2 c2, e = .returned (.tuple #[.slice A2 0 c2, .int .i64 0, .int .i64 (worksE ts p)]) ∧ Below w.heap.size w w' := by
    refine (share_tri w A c ts p h).mono ?_
    rintro e w' ⟨A2, n, cap, m, l, rfl, h2, _, h4⟩
    obtain ⟨rfl, rfl, rfl⟩ := h4.2 he
    exact ⟨A2, cap, rfl, h2⟩
  have hq0 : ∀ W, Below w.heap.size w W → Calls Try.prog 25 #[.slice A ts.length c, .int .i64 p] W fun e w' => ∃ A2 c2, e = .returned (.tuple #[.slice A2 0 c2, .int .i64 0, .int .i64 (worksE ts p)]) ∧ Below W.heap.size W w' := by
    intro W hW
    refine (long_tri W A c ts p (Kd.C_below h hW)).mono ?_
    rintro e w' ⟨A2, n, cap, m, l, rfl, h2, _, h4⟩
    obtain ⟨rfl, rfl, rfl⟩ := h4.2 he
    exact ⟨A2, cap, rfl, h2⟩
  obtain ⟨f, hf⟩ : ∃ z, z = worksE ts p := ⟨_, rfl⟩
  rw [← hf] at hp0 hq0 he
  have g0 : (f != 0) = true := by simpa using he
  have hp := Aside0.mk hp0
  have hq := Aside0.mk hq0
  have ha := Aside0.mk alive_any
  clear hp0 hq0 he hf h
  go_enter Try.func7, Try.ntmps7
  go_upto_region 2 with ((with_reducible refine hp.out.mono ?_); rintro e1 w1 ⟨A2, c2, rfl, hb1⟩; have H1 := Aside0.mk hb1; clear hb1)
  go_upto_region 3 with ((with_reducible refine (hq.out _ H1.out).mono ?_); rintro e1 w2 ⟨A3, c3, rfl, hb2⟩; have H2 := Aside0.mk (below_step H1.out hb2); clear hb2)
  go_wp2_with ((with_reducible refine (ha.out _).mono ?_); rintro e8 w8 ⟨rfl, hb8⟩; have H8 := Aside0.mk (below_step H2.out hb8); clear hb8)
  go_ret
  exact ⟨rfl, H8.out⟩

set_option maxRecDepth 100000 in
set_option maxHeartbeats 8000000 in
theorem graham_ok (w : World) (A B : Option Addr) (c d : Nat) (ts ot : List Int) (p : Int) (h : (Kd.int .i64).C w A ts.length ts) (k : (Kd.int .i64).C w B ot.length ot) (he : worksE ts p = 0) :
    Calls Try.prog 7 #[.slice A ts.length c, .int .i64 p, .slice B ot.length d] w fun e w' => e = .returned (.bool true) ∧ Below w.heap.size w w' := by
  obtain ⟨hms, hp1, hp4⟩ := MOK.of_W he
  obtain ⟨P, rfl⟩ : ∃ P : Nat, p = P := ⟨p.toNat, by omega⟩
  have hP1 : 1 ≤ P := by omega
  have hP4 : P ≤ 4 := by omega
  have hp0 : Calls Try.prog 23 #[.slice A ts.length c, .int .i64 P] w fun e w' => ∃ (A2 : Option Addr) (c2 : Nat) (F : Int) (l : List Int), e = .returned (.tuple #[.slice A2 ts.length c2, .int .i64 F, .int .i64 0]) ∧ Below w.heap.size w w' ∧ (Kd.int .i64).C w' A2 ts.length l ∧ ShIs ts P F l := by
    refine (share_tri w A c ts P h).mono ?_
    rintro e w' ⟨A2, n, cap, m, l, rfl, h2, h3, h4⟩
    obtain ⟨rfl, h5⟩ := h4.1 he
    rw [he]
    exact ⟨A2, cap, m, l, rfl, h2, h3, h5⟩
  obtain ⟨g, hg⟩ : ∃ z, z = mostF ts P := ⟨_, rfl⟩
  obtain ⟨lg, hlg⟩ : ∃ z, z = (lptF ts P (longOrd ts)).2 := ⟨_, rfl⟩
  have hq0 : ∀ W, Below w.heap.size w W → Calls Try.prog 25 #[.slice A ts.length c, .int .i64 P] W fun e w' => ∃ (A2 : Option Addr) (c2 : Nat), e = .returned (.tuple #[.slice A2 ts.length c2, .int .i64 g, .int .i64 0]) ∧ Below W.heap.size W w' ∧ (Kd.int .i64).C w' A2 ts.length lg := by
    intro W hW
    refine (long_tri W A c ts P (Kd.C_below h hW)).mono ?_
    rintro e w' ⟨A2, n, cap, m, l, rfl, h2, h3, h4⟩
    obtain ⟨rfl, rfl, rfl⟩ := h4.1 he
    rw [he, hg, hlg]
    exact ⟨A2, cap, rfl, h2, h3⟩
  have hfin : ∀ W, Below w.heap.size w W → ∀ (B : Option Addr) (d : Nat) (o : List Int), (Kd.int .i64).C W B o.length o → Calls Try.prog 27 #[.slice A ts.length c, .slice B o.length d, .int .i64 P] W fun e w' => e = .returned (.tuple #[.int .i64 ((finishF ts o P).getD 0), .bool (finishF ts o P).isSome]) ∧ Below W.heap.size W w' :=
    fun W hW B d o hB => finish_any W A B c d ts o P (Kd.C_below h hW) hB hms hP1 hP4
  obtain ⟨hm0, hm1, hmf⟩ := most_free hms hP1
  have hfl : finishF ts lg P = some g := by
    unfold finishF
    rw [hlg, if_pos (lpt_loads hP1).2, fin_long hms hP1, hg]
  have hgr : ∀ F l, ShIs ts P F l → finishF ts l P = some F ∧ F ≤ g ∧ 3 * (P * g) ≤ 4 * (P * F) - F ∧ 0 ≤ F := fun F l hI => by
    refine ⟨?_, ?_, ?_, hI.1⟩
    · unfold finishF; rw [if_pos hI.2.1.length, fin_is hms hP1 hI]
    · rw [hg]
      rcases (show mostF ts P < F ∨ F ≤ mostF ts P by omega) with hh | hh
      · exact absurd hmf (hI.2.2.1 _ _ hm0 hh)
      · exact hh
    · rw [hg]; exact graham hms hP1 hI.1 hI.2.1
  rw [← hg] at hm0 hm1
  have hlgl : lg.length = ts.length := by rw [hlg]; exact (lpt_loads hP1).2
  have hoth : ∀ F l, ShIs ts P F l → ∀ z, finishF ts ot P = some z → z ≤ F → z = F ∧ LexLe l ot ∧ ot.length = ts.length := fun F l hI z hz hle => by
    unfold finishF at hz
    by_cases hl : ot.length = ts.length
    · rw [if_pos hl] at hz
      obtain ⟨a, b, _⟩ := finF_free hms hP1 hl hz
      rcases (show z < F ∨ z = F by omega) with hh | hh
      · exact absurd b (hI.2.2.1 z ot a hh)
      · exact ⟨hh, hI.2.2.2 ot (hh ▸ b), hl⟩
    · rw [if_neg hl] at hz; cases hz
  have hml := hms.1
  have HP := Aside0.mk hp0; clear hp0
  have HQ := Aside0.mk hq0; clear hq0
  have HFIN := Aside0.mk hfin; clear hfin
  have HGR := Aside0.mk hgr; clear hgr
  have HFL := Aside0.mk hfl; clear hfl
  have HOT := Aside0.mk hoth; clear hoth
  have HLG := Aside0.mk hlgl; clear hlgl
  have HC := Aside0.mk (And.intro h k); clear h k
  have ha := Aside0.mk alive_any
  clear hg hlg he hms hmf
  go_enter Try.func7, Try.ntmps7
  go_upto_region 2 with ((with_reducible refine HP.out.mono ?_); rintro e1 w1 ⟨A2, c2, F, l, rfl, hb1, hC1, hI1⟩; have H1 := Aside0.mk (And.intro hb1 (And.intro hC1 hI1)); clear hb1 hC1 hI1)
  clear HP
  go_upto_region 3 with ((with_reducible refine (HQ.out _ H1.out.1).mono ?_); rintro e1 w2 ⟨A3, c3, rfl, hb2, hC2⟩; have H2 := Aside0.mk (And.intro (below_step H1.out.1 hb2) (And.intro (Kd.C_below H1.out.2.1 hb2) hC2)); clear hb2 hC2)
  clear HQ
  obtain ⟨hfa, hFg, hgb, hF0⟩ := HGR.out F l H1.out.2.2
  have hll : l.length = ts.length := H1.out.2.1.1
  have hq0 := HFIN.out w2 H2.out.1 A2 c2 l (by rw [hll]; exact H2.out.2.1)
  rw [hfa, hll] at hq0
  have hq1 : Calls Try.prog 27 #[.slice A ts.length c, .slice A2 ts.length c2, .int .i64 P] w2 fun e w' => e = .returned (.tuple #[.int .i64 F, .bool true]) ∧ Below w2.heap.size w2 w' := hq0
  have hq := Aside0.mk hq1
  have HLL := Aside0.mk hll
  clear hq0 hq1 hfa hll
  go_upto_region 6 with ((with_reducible refine hq.out.mono ?_); rintro e3 w3 ⟨rfl, hb3⟩; have H3 := Aside0.mk (And.intro (below_step H2.out.1 hb3) (And.intro (Kd.C_below H2.out.2.1 hb3) (Kd.C_below H2.out.2.2 hb3))); clear hb3)
  clear hq
  have hq0 := HFIN.out w3 H3.out.1 A3 c3 lg (by rw [HLG.out]; exact H3.out.2.2)
  rw [HFL.out, HLG.out] at hq0
  have hq1 : Calls Try.prog 27 #[.slice A ts.length c, .slice A3 ts.length c3, .int .i64 P] w3 fun e w' => e = .returned (.tuple #[.int .i64 g, .bool true]) ∧ Below w3.heap.size w3 w' := hq0
  have hq := Aside0.mk hq1
  clear hq0 hq1
  go_upto_region 7 with ((with_reducible refine hq.out.mono ?_); rintro e4 w4 ⟨rfl, hb4⟩; have H4 := Aside0.mk (And.intro (below_step H3.out.1 hb4) (Kd.C_below H3.out.2.1 hb4)); clear hb4)
  clear hq
  have hx1 : 3 * (P : Int) * g = 3 * (P * g) := Int.mul_assoc _ _ _
  have hx2 : (4 * (P : Int) - 1) * F = 4 * (P * F) - F := by rw [Int.sub_mul, Int.mul_assoc, Int.one_mul]
  have hxa := mul_bd (show (0 : Int) ≤ P by omega) (show (P : Int) ≤ 12 by omega) hm0 hm1
  have hxb := mul_bd (show (0 : Int) ≤ P by omega) (show (P : Int) ≤ 12 by omega) hF0 (show F ≤ 12884901888 by omega)
  obtain ⟨X, hX⟩ : ∃ z, z = 3 * (P : Int) * g := ⟨_, rfl⟩
  obtain ⟨Y, hY⟩ : ∃ z, z = (4 * (P : Int) - 1) * F := ⟨_, rfl⟩
  have hX0 : 0 ≤ X ∧ X ≤ 9000000000000 := by rw [hX, hx1]; omega
  have hY0 : -9000000000000 ≤ Y ∧ Y ≤ 9000000000000 := by rw [hY, hx2]; omega
  have hXY : X ≤ Y := by rw [hX, hY, hx1, hx2]; exact hgb
  clear hx1 hx2 hxa hxb hgb
  obtain ⟨hX0, hX1⟩ := hX0
  obtain ⟨hY0, hY1⟩ := hY0
  have hX' : 3 * (P : Int) * g = X := hX.symm
  have hY' : (4 * (P : Int) - 1) * F = Y := hY.symm
  clear hX hY
  have hd1 : decide (Y < X) = false := decide_eq_false (by omega)
  have hd2 : decide (g < F) = false := decide_eq_false (by omega)
  go_upto_region 9 with fail
  clear hd1 hd2 hX' hY'
  have hq0 := HFIN.out w4 H4.out.1 B d ot (Kd.C_below HC.out.2 H4.out.1)
  obtain ⟨r, hr⟩ : ∃ z, z = finishF ts ot P := ⟨_, rfl⟩
  rw [← hr] at hq0
  cases r with
  | none =>
    have hq1 : Calls Try.prog 27 #[.slice A ts.length c, .slice B ot.length d, .int .i64 P] w4 fun e w' => e = .returned (.tuple #[.int .i64 0, .bool false]) ∧ Below w4.heap.size w4 w' := hq0
    have hq := Aside0.mk hq1
    clear hq0 hq1 hr
    go_wp2_with (first | ((with_reducible refine hq.out.mono ?_); rintro e5 w5 ⟨rfl, hb5⟩; have H5 := Aside0.mk (below_step H4.out.1 hb5); clear hb5) | ((with_reducible refine (ha.out _).mono ?_); rintro e8 w8 ⟨rfl, hb8⟩; have H8 := Aside0.mk (below_step H5.out hb8); clear hb8))
    go_ret
    exact ⟨rfl, H8.out⟩
  | some z =>
    have hq1 : Calls Try.prog 27 #[.slice A ts.length c, .slice B ot.length d, .int .i64 P] w4 fun e w' => e = .returned (.tuple #[.int .i64 z, .bool true]) ∧ Below w4.heap.size w4 w' := hq0
    have hq := Aside0.mk hq1
    clear hq0 hq1
    by_cases hgt : F < z
    · have hd : decide (F < z) = true := decide_eq_true hgt
      clear hr
      go_wp2_with (first | ((with_reducible refine hq.out.mono ?_); rintro e5 w5 ⟨rfl, hb5⟩; have H5 := Aside0.mk (below_step H4.out.1 hb5); clear hb5) | ((with_reducible refine (ha.out _).mono ?_); rintro e8 w8 ⟨rfl, hb8⟩; have H8 := Aside0.mk (below_step H5.out hb8); clear hb8))
      go_ret
      exact ⟨rfl, H8.out⟩
    have hd : decide (F < z) = false := decide_eq_false hgt
    obtain ⟨hzF, hlx, hol⟩ := HOT.out F l H1.out.2.2 z hr.symm (by omega)
    subst hzF
    have HLEX := Aside0.mk (And.intro hlx hol)
    clear hlx hol hr hgt
    go_upto_region 10 with ((with_reducible refine hq.out.mono ?_); rintro e5 w5 ⟨rfl, hb5⟩; have H5 := Aside0.mk (And.intro (below_step H4.out.1 hb5) (Kd.C_below H4.out.2 hb5)); clear hb5)
    go_wp2_with fail
    go_loopw [19] (fun v wr => ∃ j : Int, v = .int .i64 j ∧ 0 ≤ j ∧ j ≤ ot.length ∧ Aside0 (∀ k : Nat, k < j.toNat → l.getD k 0 = ot.getD k 0) ∧ Aside0 (Below w5.heap.size w5 wr)) (fun v _ => ot.length - (intOf v).toNat)
    case atStart => exact ⟨0, rfl, by omega, by omega, ⟨fun k hk => by omega⟩, ⟨Below.refl _ _⟩⟩
    case round =>
      obtain ⟨j, rfl, hj0, hj1, HJ, HW⟩ := hrel
      by_cases hjl : j < ot.length
      · have hjm : j < ts.length := by have := HLEX.out.2; omega
        obtain ⟨ad, e1, g1⟩ := Kd.at_int (Kd.C_below H5.out.2 HW.out) j hj0 hjm
        obtain ⟨ad2, e2, g2⟩ := Kd.at_int (Kd.C_below HC.out.2 (below_step H5.out.1 HW.out)) j hj0 hjl
        subst e1
        subst e2
        obtain ⟨x, hx⟩ : ∃ z, z = rd l j := ⟨_, rfl⟩
        obtain ⟨y, hy⟩ : ∃ z, z = rd ot j := ⟨_, rfl⟩
        rw [← hx] at g1
        rw [← hy] at g2
        have HXY := Aside0.mk (And.intro hx hy)
        clear hx hy
        by_cases hxy : x = y
        · have hd5 : (x == y) = true := by simpa using hxy
          go_upto_region 15 with fail
          go_quiet (fail)
          go_wp2_with fail
          go_roundw
          case rel =>
            refine ⟨j + 1, by go_num, by omega, by omega, ⟨fun k hk => ?_⟩, ⟨by first | exact below_drew HW.out | exact pw_below_drewN HW.out _⟩⟩
            rcases (show k < j.toNat ∨ k = j.toNat by omega) with h | h
            · exact HJ.out k h
            · have := HXY.out
              rw [hxy] at this
              rw [h]; exact this.1.symm.trans this.2
          case measure => simp [intOf]; omega
        · have hd5 : (x == y) = false := by simpa using hxy
          have hlt5 : x < y := by
            rw [HXY.out.1, HXY.out.2]
            exact lex_at l ot j.toNat HLEX.out.1 HJ.out (by have := HLL.out; omega) (fun e => hxy (by rw [HXY.out.1, HXY.out.2]; exact e))
          have hd6 : decide (x < y) = true := decide_eq_true hlt5
          go_upto_region 15 with fail
          go_cut [138] from 130 to 138 (fun v w1 => v = .bool true ∧ Aside0 (Below wr.heap.size wr w1))
          case first =>
            go_quiet (fail)
            go_wp2_with fail
            go_meet
            case rel => exact ⟨(by show Value.bool (!(x == y)) = _; rw [hd5]; rfl), ⟨by first | exact below_drew (Below.refl _ _) | exact pw_below_drewN (Below.refl _ _) _⟩⟩
          case rest =>
          obtain ⟨rfl, H6⟩ := hcut
          obtain ⟨w6, hw6⟩ : ∃ z, z = wc := ⟨_, rfl⟩
          subst hw6
          clear g1 g2
          have g1 := (Kd.at_int (Kd.C_below H5.out.2 (below_step HW.out H6.out)) j hj0 hjm)
          have g2 := (Kd.at_int (Kd.C_below HC.out.2 (below_step H5.out.1 (below_step HW.out H6.out))) j hj0 hjl)
          obtain ⟨_, e1, g1⟩ := g1
          obtain ⟨_, e2, g2⟩ := g2
          cases e1
          cases e2
          rw [← HXY.out.1] at g1
          rw [← HXY.out.2] at g2
          go_upto_region 16 with fail
          go_still_tail 15, (by kernel_rfl)
          change wpList _ _ _ _ _ w6.drew
          go_wp2_with ((with_reducible refine (ha.out _).mono ?_); rintro e8 w8 ⟨rfl, hb8⟩; have H8 := Aside0.mk hb8; clear hb8)
          go_ret
          exact ⟨rfl, below_step H5.out.1 (below_step HW.out (below_step H6.out (below_step (below_drew (Below.refl _ _)) H8.out)))⟩
      · go_wp2_with ((with_reducible refine (ha.out _).mono ?_); rintro e8 w8 ⟨rfl, hb8⟩; have H8 := Aside0.mk (below_step (below_step H5.out.1 HW.out) hb8); clear hb8)
        go_ret
        exact ⟨rfl, H8.out⟩

theorem graham_any (w : World) (A B : Option Addr) (c d : Nat) (ts ot : List Int) (p : Int) (h : (Kd.int .i64).C w A ts.length ts) (k : (Kd.int .i64).C w B ot.length ot) :
    Calls Try.prog 7 #[.slice A ts.length c, .int .i64 p, .slice B ot.length d] w fun e w' => e = .returned (.bool true) ∧ Below w.heap.size w w' := by
  by_cases he : worksE ts p = 0
  · exact graham_ok w A B c d ts ot p h k he
  · exact graham_bad w A B c d _ ts p h he
end Go.Proofs.Ytnoocdobldchoaa

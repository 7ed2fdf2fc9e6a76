/- What PressPacks answers. -/
import Derived.Test.YtnoocdobldchoaaAlive
import Derived.Test.YtnoocdobldchoaaBest
namespace Go.Proofs.Ytnoocdobldchoaa
open Go.RowKit Go.Proofs.YtnoocdobldchoaaW.PrintWords Go.Proofs.YtnoocdobldchoaaW.PrintMore Go.Proofs.YtnoocdobldchoaaW.PrintLast

theorem packs_far (w : World) (A : Option Addr) (c n : Nat) (most each : Int) (hn : 30 < n) (hl : n ≤ 9223372036854775807) :
    Calls Try.prog 3 #[.slice A n c, .int .i64 most, .int .i64 each] w fun e w' => e = .returned (.bool true) ∧ Below w.heap.size w w' := by
  have ha := Aside0.mk (alive_any w)
  have g0 : decide ((30 : Int) < (n : Int)) = true := decide_eq_true (by omega)
  have g1 : ((n : Int) > 30) := by omega
  go_enter Try.func3, Try.ntmps3
  go_wp2_with ((with_reducible refine ha.out.mono ?_); rintro e2 w2 ⟨rfl, hb⟩)
  go_ret
  exact ⟨rfl, hb⟩

set_option maxHeartbeats 4000000 in
theorem packs_near (w : World) (A : Option Addr) (c : Nat) (ms : List Int) (most each : Int) (h : (Kd.int .i64).C w A ms.length ms) (hn : ms.length ≤ 30) :
    Calls Try.prog 3 #[.slice A ms.length c, .int .i64 most, .int .i64 each] w fun e w' => e = .returned (.bool true) ∧ Below w.heap.size w w' := by
  have hc := Aside0.mk (copied_any w A c ms h (by omega))
  have H := Aside0.mk h; clear h
  have HN := Aside0.mk hn
  have g0 : decide ((30 : Int) < (ms.length : Int)) = false := decide_eq_false (by omega)
  have g1 : ¬ ((ms.length : Int) > 30) := by omega
  go_enter Try.func3, Try.ntmps3
  go_upto_region 4 with ((with_reducible refine hc.out.mono ?_); rintro e1 w1 ⟨g, rfl, hb1, hg1⟩; have H1 := Aside0.mk (And.intro hb1 hg1); clear hb1 hg1)
  clear g0 g1
  have C1 := Aside0.mk (Kd.C_below H.out H1.out.1)
  have T1 := Aside0.mk (H1.out.2.ints_C (by omega)); clear hn
  have hp := Aside0.mk (pack_best w1 (some ⟨g, 0, none⟩) ms.length ms most each T1.out)
  go_upto_region 5 with ((with_reducible refine hp.out.mono ?_); rintro e2 w2 ⟨A2, n2, m2, l2, rfl, hb2, hC2, hB2⟩; have H2 := Aside0.mk (And.intro (below_step H1.out.1 hb2) (And.intro hC2 (And.intro hB2 (And.intro (Kd.C_below T1.out hb2) (Kd.C_below C1.out hb2))))); clear hb2 hC2 hB2)
  clear hp
  have hp := Aside0.mk (rpack_best w2 A c ms most each H2.out.2.2.2.2)
  go_upto_region 6 with ((with_reducible refine hp.out.mono ?_); rintro e3 w3 ⟨A3, n3, m3, l3, rfl, hb3, hC3, hB3⟩; obtain ⟨rfl, rfl, rfl⟩ := H2.out.2.2.1.one hB3; have H3 := Aside0.mk (And.intro (below_step H2.out.1 hb3) (And.intro (Kd.C_below H2.out.2.1 hb3) (And.intro hC3 (And.intro (Kd.C_below H2.out.2.2.2.1 hb3) (Kd.C_below H2.out.2.2.2.2 hb3))))); clear hb3 hC3 hB3)
  clear hp
  have hp := Aside0.mk (same_yes_C w3 A2 A3 n2 n2 n2 l2 H3.out.2.1 H3.out.2.2.1)
  go_upto_region 8 with ((with_reducible refine hp.out.mono ?_); rintro e4 w4 ⟨rfl, hb4⟩; have H4 := Aside0.mk (And.intro (below_step H3.out.1 hb4) (And.intro (Kd.C_below H3.out.2.2.2.1 hb4) (Kd.C_below H3.out.2.2.2.2 hb4))); clear hb4)
  clear hp
  have hv : (if thingsE ms most 1 = 0 then boundF ms most else 0) = (if thingsE ms most 1 = 0 then rBoundF ms most else 0) := by
    split
    · exact bound_one ‹_›
    · rfl
  have hp0 := pBound_any w4 (some ⟨g, 0, none⟩) ms.length ms most H4.out.2.1
  obtain ⟨v, hve⟩ : ∃ z, z = (if thingsE ms most 1 = 0 then rBoundF ms most else 0) := ⟨_, rfl⟩
  obtain ⟨f, hfe⟩ : ∃ z, z = thingsE ms most 1 := ⟨_, rfl⟩
  rw [hv, ← hve, ← hfe] at hp0
  have hp := Aside0.mk hp0
  have HV := Aside0.mk (And.intro hve hfe)
  clear hp0 hv hve hfe
  go_upto_region 9 with ((with_reducible refine hp.out.mono ?_); rintro e5 w5 ⟨rfl, hb5⟩; have H5 := Aside0.mk (And.intro (below_step H4.out.1 hb5) (And.intro (Kd.C_below H4.out.2.1 hb5) (Kd.C_below H4.out.2.2 hb5))); clear hb5)
  clear hp
  have hp0 := rBound_any w5 A c ms most H5.out.2.2
  rw [← HV.out.1, ← HV.out.2] at hp0
  have hp := Aside0.mk hp0
  clear hp0
  go_upto_region 10 with ((with_reducible refine hp.out.mono ?_); rintro e6 w6 ⟨rfl, hw6⟩; subst hw6)
  clear hp
  have hp := Aside0.mk (same_yes_C w5 (some ⟨g, 0, none⟩) A ms.length ms.length c ms H5.out.2.1 H5.out.2.2)
  have ha := Aside0.mk alive_any
  go_wp2_with (first | ((with_reducible refine hp.out.mono ?_); rintro e7 w7 ⟨rfl, hb7⟩; have H7 := Aside0.mk (below_step H5.out.1 hb7); clear hb7) | ((with_reducible refine (ha.out _).mono ?_); rintro e8 w8 ⟨rfl, hb8⟩; have H8 := Aside0.mk (below_step H7.out hb8); clear hb8))
  go_ret
  exact ⟨rfl, H8.out⟩

theorem packs_any (w : World) (A : Option Addr) (c : Nat) (ms : List Int) (most each : Int) (h : (Kd.int .i64).C w A ms.length ms) :
    Calls Try.prog 3 #[.slice A ms.length c, .int .i64 most, .int .i64 each] w fun e w' => e = .returned (.bool true) ∧ Below w.heap.size w w' := by
  by_cases hn : ms.length ≤ 30
  · exact packs_near w A c ms most each h hn
  · exact packs_far w A c _ most each (by omega) (Kd.C_max h)
end Go.Proofs.Ytnoocdobldchoaa

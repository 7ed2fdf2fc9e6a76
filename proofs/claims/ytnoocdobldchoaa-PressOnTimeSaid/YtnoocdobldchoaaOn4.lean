/- What PressOnTime answers. -/
import Derived.Test.YtnoocdobldchoaaOn3
namespace Go.Proofs.Ytnoocdobldchoaa
open Go.RowKit Go.Proofs.YtnoocdobldchoaaW.PrintWords Go.Proofs.YtnoocdobldchoaaW.PrintMore Go.Proofs.YtnoocdobldchoaaW.PrintLast

set_option maxHeartbeats 4000000 in
theorem pontime_far (w : World) (A : Option Addr) (n c : Nat) (h : 80 < n) :
    Calls Try.prog 8 #[.slice A n c] w fun e w' => e = .returned (.bool true) ∧ Below w.heap.size w w' := by
  have ha := Aside0.mk alive_any
  have d1 : decide ((80 : Int) < n) = true := decide_eq_true (by omega)
  clear h
  go_enter Try.func8, Try.ntmps8
  go_wp2_with ((with_reducible refine (ha.out _).mono ?_); rintro e8 w8 ⟨rfl, hb8⟩; have H8 := Aside0.mk hb8; clear hb8)
  go_ret
  exact ⟨rfl, H8.out⟩

set_option maxRecDepth 100000 in
set_option maxHeartbeats 8000000 in
theorem pontime_near (w : World) (A : Option Addr) (c : Nat) (ts : List (Int × Int)) (h : kP.C w A ts.length ts) (hc : ts.length ≤ c) (h1 : ts.length ≤ 80) :
    Calls Try.prog 8 #[.slice A ts.length c] w fun e w' => e = .returned (.bool true) ∧ Below w.heap.size w w' := by
  have ha := Aside0.mk alive_any
  have d1 : decide ((80 : Int) < ts.length) = false := decide_eq_false (by omega)
  have HK := Aside0.mk (And.intro h hc)
  have HS1 := Aside0.mk (ontime_any w A c ts h)
  clear h hc
  go_enter Try.func8, Try.ntmps8
  go_upto_region 4 with ((with_reducible refine HS1.out.mono ?_); rintro e2 w2 ⟨A2, B2, n2, m2, c2, q2, rfl, hb2, hC2, hD2, _, _⟩; have H2 := Aside0.mk (And.intro hb2 (And.intro hC2 hD2)); clear hb2 hC2 hD2)
  clear HS1 d1
  have HS2 := Aside0.mk (rOn_any w2 A c ts (Kd.C_below HK.out.1 H2.out.1) HK.out.2)
  go_upto_region 5 with ((with_reducible refine HS2.out.mono ?_); rintro e3 w3 ⟨A3, B3, n3, m3, c3, q3, rfl, hb3, hC3, hD3, _, _⟩; have H3 := Aside0.mk (And.intro (below_step H2.out.1 hb3) (And.intro (Kd.C_below H2.out.2.1 hb3) (And.intro (Kd.C_below H2.out.2.2 hb3) (And.intro hC3 hD3)))); clear hb3 hC3 hD3)
  clear HS2
  obtain ⟨e0, he0⟩ : ∃ z, z = tasksE ts := ⟨_, rfl⟩
  rw [← he0]
  have hs1 := same_any w3 A2 A3 c2 c3 (doneF ts) (doneF ts) (by have t := H3.out.2.1; rw [t.1]; exact t) (by have t := H3.out.2.2.2.1; rw [t.1]; exact t)
  have hs2 := fun W (hW : Below w3.heap.size w3 W) => same_any W B2 B3 q2 q3 (lateF ts) (lateF ts) (by have t := Kd.C_below H3.out.2.2.1 hW; rw [t.1]; exact t) (by have t := Kd.C_below H3.out.2.2.2.2 hW; rw [t.1]; exact t)
  rw [decide_eq_true rfl] at hs1 hs2
  have e1 : n2 = (doneF ts).length := H3.out.2.1.1.symm
  have e2 : n3 = (doneF ts).length := H3.out.2.2.2.1.1.symm
  have e3 : m2 = (lateF ts).length := H3.out.2.2.1.1.symm
  have e4 : m3 = (lateF ts).length := H3.out.2.2.2.2.1.symm
  rw [← e1] at hs1
  rw [← e3] at hs2
  obtain rfl : n3 = n2 := e2.trans e1.symm
  obtain rfl : m3 = m2 := e4.trans e3.symm
  have HA1 := Aside0.mk hs1
  have HA2 := Aside0.mk hs2
  have b1 : (e0 == e0) = true := by simp
  clear hs1 hs2 e1 e2 e3 e4 he0
  go_wp2_with (first | ((with_reducible refine HA1.out.mono ?_); rintro e4 w4 ⟨rfl, hb4⟩; have H4 := Aside0.mk hb4; clear hb4) | ((with_reducible refine (HA2.out _ H4.out).mono ?_); rintro e5 w5 ⟨rfl, hb5⟩; have H5 := Aside0.mk (below_step (below_step H3.out.1 H4.out) hb5); clear hb5) | ((with_reducible refine (ha.out _).mono ?_); rintro e8 w8 ⟨rfl, hb8⟩; have H8 := Aside0.mk (below_step H5.out hb8); clear hb8))
  go_ret
  exact ⟨rfl, H8.out⟩
theorem pontime_all (w : World) (A : Option Addr) (c : Nat) (ts : List (Int × Int)) (h : kP.C w A ts.length ts) (hc : ts.length ≤ c) :
    Calls Try.prog 8 #[.slice A ts.length c] w fun e w' => e = .returned (.bool true) ∧ Below w.heap.size w w' := by
  by_cases hh : 80 < ts.length
  · exact pontime_far w A _ c hh
  · exact pontime_near w A c ts h hc (by omega)
end Go.Proofs.Ytnoocdobldchoaa

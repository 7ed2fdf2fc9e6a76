/- What PressSequences answers. -/
import Derived.Test.YtnoocdobldchoaaSx2
namespace Go.Proofs.Ytnoocdobldchoaa
open Go.RowKit Go.Proofs.YtnoocdobldchoaaW.PrintWords Go.Proofs.YtnoocdobldchoaaW.PrintMore Go.Proofs.YtnoocdobldchoaaW.PrintLast

set_option maxHeartbeats 4000000 in
theorem sequences_far (w : World) (A B : Option Addr) (n c m d : Nat) (h : 80 < n ∨ 80 < m) :
    Calls Try.prog 13 #[.slice A n c, .slice B m d] w fun e w' => e = .returned (.bool true) ∧ Below w.heap.size w w' := by
  have ha := Aside0.mk alive_any
  by_cases h1 : 80 < n
  · have d1 : decide ((80 : Int) < n) = true := decide_eq_true (by omega)
    clear h
    go_enter Try.func13, Try.ntmps13
    go_wp2_with ((with_reducible refine (ha.out _).mono ?_); rintro e8 w8 ⟨rfl, hb8⟩; have H8 := Aside0.mk hb8; clear hb8)
    go_ret
    exact ⟨rfl, H8.out⟩
  · have d1 : decide ((80 : Int) < n) = false := decide_eq_false (by omega)
    have d2 : decide ((80 : Int) < m) = true := decide_eq_true (by omega)
    clear h
    go_enter Try.func13, Try.ntmps13
    go_wp2_with ((with_reducible refine (ha.out _).mono ?_); rintro e8 w8 ⟨rfl, hb8⟩; have H8 := Aside0.mk hb8; clear hb8)
    go_ret
    exact ⟨rfl, H8.out⟩
theorem crit_one {ds : List (Int × Int)} {o : List Int} {r s : Int} (h : orderedE ds o = 0 → IsCrit ds o r) (h' : orderedE ds o ≠ 0 → r = 0) (k : orderedE ds o = 0 → IsCrit ds o s) (k' : orderedE ds o ≠ 0 → s = 0) : r = s := by
  by_cases e : orderedE ds o = 0
  · exact (h e).one (k e)
  · rw [h' e, k' e]

set_option maxRecDepth 100000 in
set_option maxHeartbeats 8000000 in
theorem sequences_near (w : World) (A B : Option Addr) (c d : Nat) (ds : List (Int × Int)) (o : List Int) (h : kP.C w A ds.length ds) (hc : ds.length ≤ c) (k : (Kd.int .i64).C w B o.length o) (hd : o.length ≤ d) (h1 : ds.length ≤ 80) (h2 : o.length ≤ 80) :
    Calls Try.prog 13 #[.slice A ds.length c, .slice B o.length d] w fun e w' => e = .returned (.bool true) ∧ Below w.heap.size w w' := by
  have ha := Aside0.mk alive_any
  have d1 : decide ((80 : Int) < ds.length) = false := decide_eq_false (by omega)
  have d2 : decide ((80 : Int) < o.length) = false := decide_eq_false (by omega)
  have HK := Aside0.mk (And.intro h k)
  have HC := Aside0.mk (And.intro hc hd)
  have hcp := Aside0.mk (copied_any w B d o k (by omega))
  clear h k hc hd
  go_enter Try.func13, Try.ntmps13
  go_upto_region 4 with ((with_reducible refine hcp.out.mono ?_); rintro e1 w1 ⟨g, rfl, hb1, hg1⟩; have H1 := Aside0.mk (And.intro hb1 hg1); clear hb1 hg1)
  clear hcp d1 d2
  have hs1 := seq_tri w1 A c ds (Kd.C_below HK.out.1 H1.out.1)
  have hs2 := fun W (hW : Below w.heap.size w W) => rSeq_any W A c ds (Kd.C_below HK.out.1 hW) HC.out.1
  obtain ⟨e0, he0⟩ : ∃ z, z = dumpsE ds := ⟨_, rfl⟩
  rw [← he0] at hs1 hs2
  have HS1 := Aside0.mk hs1
  have HS2 := Aside0.mk hs2
  clear hs1 hs2 he0
  go_upto_region 5 with ((with_reducible refine HS1.out.mono ?_); rintro e2 w2 ⟨A2, n2, q2, m2, l2, rfl, hb2, hC2, hB2⟩; have H2 := Aside0.mk (And.intro (below_step H1.out.1 hb2) (And.intro hC2 (And.intro hB2 (H1.out.2.below hb2)))); clear hb2 hC2 hB2)
  clear HS1
  go_upto_region 6 with ((with_reducible refine (HS2.out _ H2.out.1).mono ?_); rintro e3 w3 ⟨A3, n3, q3, m3, l3, rfl, hb3, hC3, hB3⟩; have H3 := Aside0.mk (And.intro (below_step H2.out.1 hb3) (And.intro (Kd.C_below H2.out.2.1 hb3) (And.intro hC3 (And.intro (H2.out.2.2.1.one hB3) (H2.out.2.2.2.below hb3))))); clear hb3 hC3 hB3)
  clear HS2
  obtain ⟨rfl, rfl, rfl⟩ := H3.out.2.2.2.1
  have hl2 : l2.length = n2 := H3.out.2.1.1
  subst hl2
  have hsm := same_any w3 A2 A3 q2 q3 l2 l2 H3.out.2.1 H3.out.2.2.1
  rw [decide_eq_true rfl] at hsm
  have HSM := Aside0.mk hsm
  have b1 : (m2 != m2) = false := by simp
  have b2 : (e0 != e0) = false := by simp
  clear hsm
  go_upto_region 8 with ((with_reducible refine HSM.out.mono ?_); rintro e4 w4 ⟨rfl, hb4⟩; have H4 := Aside0.mk (And.intro (below_step H3.out.1 hb4) (H3.out.2.2.2.2.below hb4)); clear hb4)
  clear HSM b1 b2
  have T4 := Aside0.mk (H4.out.2.ints_C (by omega))
  have hm1 := makespan_any w4 A (some ⟨g, 0, none⟩) c o.length ds o (Kd.C_below HK.out.1 H4.out.1) T4.out
  have hm2 := fun W (hW : Below w.heap.size w W) => rMake_any W A B c d ds o (Kd.C_below HK.out.1 hW) HC.out.1 (Kd.C_below HK.out.2 hW) HC.out.2
  have hc1 := fun W (hW : Below w4.heap.size w4 W) => critical_any W A (some ⟨g, 0, none⟩) c o.length ds o (Kd.C_below (Kd.C_below HK.out.1 H4.out.1) hW) (Kd.C_below T4.out hW)
  have hc2 := fun W (hW : Below w.heap.size w W) => rCrit_any W A B c d ds o (Kd.C_below HK.out.1 hW) HC.out.1 (Kd.C_below HK.out.2 hW) HC.out.2
  have hc1' : ∀ W, Below w4.heap.size w4 W → Calls Try.prog 38 #[.slice A ds.length c, .slice (some ⟨g, 0, none⟩) o.length o.length] W fun e w' => ∃ r : Int, e = .returned (.tuple #[.int .i64 r, .int .i64 (orderedE ds o)]) ∧ Below W.heap.size W w' ∧ (orderedE ds o = 0 → IsCrit ds o r) ∧ (orderedE ds o ≠ 0 → r = 0) :=
    fun W hW => (hc1 W hW).mono fun e w' ⟨a, r, b, c1, c2⟩ => ⟨r, b, a, c1, c2⟩
  obtain ⟨f0, hf0⟩ : ∃ z, z = orderedE ds o := ⟨_, rfl⟩
  obtain ⟨m0, hm0⟩ : ∃ z, z = makeF ds o := ⟨_, rfl⟩
  rw [← hf0, ← hm0] at hm1 hm2
  have hc2' : ∀ W, Below w.heap.size w W → Calls Try.prog 39 #[.slice A ds.length c, .slice B o.length d] W fun e w' => ∃ r : Int, e = .returned (.tuple #[.int .i64 r, .int .i64 f0]) ∧ Below W.heap.size W w' ∧ (orderedE ds o = 0 → IsCrit ds o r) ∧ (orderedE ds o ≠ 0 → r = 0) := by rw [hf0]; exact hc2
  have hc1'' : ∀ W, Below w4.heap.size w4 W → Calls Try.prog 38 #[.slice A ds.length c, .slice (some ⟨g, 0, none⟩) o.length o.length] W fun e w' => ∃ r : Int, e = .returned (.tuple #[.int .i64 r, .int .i64 f0]) ∧ Below W.heap.size W w' ∧ (orderedE ds o = 0 → IsCrit ds o r) ∧ (orderedE ds o ≠ 0 → r = 0) := by rw [hf0]; exact hc1'
  have HM1 := Aside0.mk hm1
  have HM2 := Aside0.mk hm2
  have HC1 := Aside0.mk hc1''
  have HC2 := Aside0.mk hc2'
  clear hm1 hm2 hc1 hc2 hc1' hc1'' hc2' hf0 hm0
  go_upto_region 9 with ((with_reducible refine HM1.out.mono ?_); rintro e5 w5 ⟨rfl, hb5⟩; have H5 := Aside0.mk hb5; clear hb5)
  clear HM1
  go_upto_region 10 with ((with_reducible refine (HM2.out _ (below_step H4.out.1 H5.out)).mono ?_); rintro e6 w6 ⟨rfl, hb6⟩; have H6 := Aside0.mk (below_step H5.out hb6); clear hb6)
  clear HM2
  have b3 : (m0 != m0) = false := by simp
  have b4 : (f0 != f0) = false := by simp
  go_upto_region 13 with ((with_reducible refine (HC1.out _ H6.out).mono ?_); rintro e7 w7 ⟨r, rfl, hb7, hr1, hr2⟩; have H7 := Aside0.mk (And.intro (below_step H6.out hb7) (And.intro hr1 hr2)); clear hb7 hr1 hr2)
  clear HC1 b3 b4
  go_upto_region 14 with ((with_reducible refine (HC2.out _ (below_step H4.out.1 H7.out.1)).mono ?_); rintro e9 w9 ⟨s, rfl, hb9, hr1, hr2⟩; have H9 := Aside0.mk (And.intro (below_step H7.out.1 hb9) (crit_one H7.out.2.1 H7.out.2.2 hr1 hr2)); clear hb9 hr1 hr2)
  clear HC2
  obtain rfl := H9.out.2
  have hsm := same_any w9 (some ⟨g, 0, none⟩) B o.length d o o (Kd.C_below T4.out H9.out.1) (Kd.C_below HK.out.2 (below_step H4.out.1 H9.out.1))
  rw [decide_eq_true rfl] at hsm
  have HSM := Aside0.mk hsm
  have b1 : (r == r) = true := by simp
  have b2 : (f0 == f0) = true := by simp
  clear hsm
  go_wp2_with (first | ((with_reducible refine HSM.out.mono ?_); rintro e10 w10 ⟨rfl, hb10⟩; have H10 := Aside0.mk (below_step (below_step H4.out.1 H9.out.1) hb10); clear hb10) | ((with_reducible refine (ha.out _).mono ?_); rintro e8 w8 ⟨rfl, hb8⟩; have H8 := Aside0.mk (below_step H10.out hb8); clear hb8))
  go_ret
  exact ⟨rfl, H8.out⟩
theorem psequences_any (w : World) (A B : Option Addr) (c d : Nat) (ds : List (Int × Int)) (o : List Int) (h : kP.C w A ds.length ds) (hc : ds.length ≤ c) (k : (Kd.int .i64).C w B o.length o) (hd : o.length ≤ d) :
    Calls Try.prog 13 #[.slice A ds.length c, .slice B o.length d] w fun e w' => e = .returned (.bool true) ∧ Below w.heap.size w w' := by
  by_cases hh : 80 < ds.length ∨ 80 < o.length
  · exact sequences_far w A B _ c _ d hh
  · exact sequences_near w A B c d ds o h hc k hd (by omega) (by omega)
end Go.Proofs.Ytnoocdobldchoaa

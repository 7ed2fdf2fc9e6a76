/- What PressJohnson answers. -/
import Derived.Test.YtnoocdobldchoaaJo2
namespace Go.Proofs.Ytnoocdobldchoaa
open Go.RowKit Go.Proofs.YtnoocdobldchoaaW.PrintWords Go.Proofs.YtnoocdobldchoaaW.PrintMore Go.Proofs.YtnoocdobldchoaaW.PrintLast

/-- What Sequence answers, in one form. -/
def JBest (ds : List (Int × Int)) (m : Int) (n : Nat) (l : List Int) : Prop := (dumpsE ds = 0 → n = ds.length ∧ m = spanF ds (jord ds) ∧ l = jord ds) ∧ (dumpsE ds ≠ 0 → m = 0 ∧ n = 0 ∧ l = [])
theorem JBest.one {ds : List (Int × Int)} {m m' : Int} {n n' : Nat} {l l' : List Int} (h : JBest ds m n l) (k : JBest ds m' n' l') : m = m' ∧ n = n' ∧ l = l' := by
  by_cases e : dumpsE ds = 0
  · obtain ⟨rfl, rfl, rfl⟩ := h.1 e
    obtain ⟨rfl, rfl, rfl⟩ := k.1 e
    exact ⟨rfl, rfl, rfl⟩
  · obtain ⟨rfl, rfl, rfl⟩ := h.2 e
    obtain ⟨rfl, rfl, rfl⟩ := k.2 e
    exact ⟨rfl, rfl, rfl⟩
theorem seq_tri (w : World) (A : Option Addr) (c : Nat) (ds : List (Int × Int)) (h : kP.C w A ds.length ds) : Calls Try.prog 33 #[.slice A ds.length c] w (TriPost (JBest ds) (dumpsE ds) w) := by
  refine (seq64 w A c ds h).mono ?_
  rintro e w' ⟨h1, h2⟩
  by_cases he : dumpsE ds = 0
  · rw [if_pos he] at h2
    obtain ⟨g, rfl, h4⟩ := h2
    have hl : (jord ds).length = ds.length := by rw [(jord_perm ds).length_eq, upto_length]
    have hC := h4.ints_C (by rw [show srt (jcf ds) (upto ds.length) = jord ds from rfl, hl]; have := (DOK.of_E he).1; omega)
    rw [show srt (jcf ds) (upto ds.length) = jord ds from rfl, hl] at hC
    exact ⟨_, _, _, _, _, by rw [he]; rfl, h1, hC, fun _ => ⟨rfl, rfl, rfl⟩, fun h => absurd he h⟩
  · rw [if_neg he] at h2
    exact ⟨none, 0, 0, 0, [], h2, h1, nil_C _, fun h => absurd h he, fun _ => ⟨rfl, rfl, rfl⟩⟩
theorem ordered_jord {ds : List (Int × Int)} (h : dumpsE ds = 0) : orderedE ds (jord ds) = 0 := by
  unfold orderedE
  rw [if_neg (by simpa using h), if_pos (jord_perm ds)]
theorem make_jord {ds : List (Int × Int)} (h : dumpsE ds = 0) : makeF ds (jord ds) = spanF ds (jord ds) := by
  unfold makeF
  rw [if_pos (ordered_jord h)]

set_option maxHeartbeats 4000000 in
theorem johnson_far (w : World) (A B : Option Addr) (n c m d : Nat) (h : 80 < n ∨ 80 < m) :
    Calls Try.prog 10 #[.slice A n c, .slice B m d] w fun e w' => e = .returned (.bool true) ∧ Below w.heap.size w w' := by
  have ha := Aside0.mk alive_any
  by_cases h1 : 80 < n
  · have d1 : decide ((80 : Int) < n) = true := decide_eq_true (by omega)
    clear h
    go_enter Try.func10, Try.ntmps10
    go_wp2_with ((with_reducible refine (ha.out _).mono ?_); rintro e8 w8 ⟨rfl, hb8⟩; have H8 := Aside0.mk hb8; clear hb8)
    go_ret
    exact ⟨rfl, H8.out⟩
  · have d1 : decide ((80 : Int) < n) = false := decide_eq_false (by omega)
    have d2 : decide ((80 : Int) < m) = true := decide_eq_true (by omega)
    clear h
    go_enter Try.func10, Try.ntmps10
    go_wp2_with ((with_reducible refine (ha.out _).mono ?_); rintro e8 w8 ⟨rfl, hb8⟩; have H8 := Aside0.mk hb8; clear hb8)
    go_ret
    exact ⟨rfl, H8.out⟩
set_option maxRecDepth 100000 in
set_option maxHeartbeats 8000000 in
theorem johnson_near (w : World) (A B : Option Addr) (c d : Nat) (ds : List (Int × Int)) (o : List Int) (h : kP.C w A ds.length ds) (k : (Kd.int .i64).C w B o.length o) (h1 : ds.length ≤ 80) (h2 : o.length ≤ 80) :
    Calls Try.prog 10 #[.slice A ds.length c, .slice B o.length d] w fun e w' => e = .returned (.bool true) ∧ Below w.heap.size w w' := by
  have ha := Aside0.mk alive_any
  have d1 : decide ((80 : Int) < ds.length) = false := decide_eq_false (by omega)
  have d2 : decide ((80 : Int) < o.length) = false := decide_eq_false (by omega)
  have hs := seq_tri w A c ds h
  have HK := Aside0.mk (And.intro h k)
  have hmk := fun W (hW : Below w.heap.size w W) => makespan_any W A B c d ds o (Kd.C_below h hW) (Kd.C_below k hW)
  obtain ⟨e0, he0⟩ : ∃ z, z = dumpsE ds := ⟨_, rfl⟩
  obtain ⟨f0, hf0⟩ : ∃ z, z = orderedE ds o := ⟨_, rfl⟩
  obtain ⟨m0, hm0⟩ : ∃ z, z = makeF ds o := ⟨_, rfl⟩
  rw [← he0] at hs
  rw [← hf0, ← hm0] at hmk
  have HS := Aside0.mk hs
  have HMK := Aside0.mk hmk
  have HE := Aside0.mk (And.intro he0 (And.intro hf0 hm0))
  clear hs hmk he0 hf0 hm0 h k
  go_enter Try.func10, Try.ntmps10
  go_upto_region 4 with ((with_reducible refine HS.out.mono ?_); rintro e1 w1 ⟨A1, n1, c1, m1, l1, rfl, hb1, hC1, hB1⟩; have H1 := Aside0.mk (And.intro hb1 (And.intro hC1 hB1)); clear hb1 hC1 hB1)
  clear HS d1 d2
  go_upto_region 5 with ((with_reducible refine (HMK.out _ H1.out.1).mono ?_); rintro e2 w2 ⟨rfl, hb2⟩; have H2 := Aside0.mk (And.intro (below_step H1.out.1 hb2) (Kd.C_below H1.out.2.1 hb2)); clear hb2)
  clear HMK
  by_cases hz : e0 = 0
  rotate_left
  · have hzb : (e0 != 0) = true := by simp [hz]
    obtain ⟨rfl, rfl, rfl⟩ := H1.out.2.2.2 (fun e => hz (by rw [HE.out.1, e]))
    have hfb : (f0 != 0) = true := by
      have : f0 = e0 := by
        rw [HE.out.2.1, HE.out.1]
        unfold orderedE
        rw [if_pos (fun e => hz (by rw [HE.out.1, e]))]
      rw [this]; exact hzb
    go_wp2_with ((with_reducible refine (ha.out _).mono ?_); rintro e8 w8 ⟨rfl, hb8⟩; have H8 := Aside0.mk (below_step H2.out.1 hb8); clear hb8)
    go_ret
    exact ⟨rfl, H8.out⟩
  have hE0 : dumpsE ds = 0 := HE.out.1.symm.trans hz
  obtain ⟨rfl, rfl, rfl⟩ := H1.out.2.2.1 hE0
  subst hz
  have hdl := (DOK.of_E hE0).1
  have hjl : (jord ds).length = ds.length := by rw [(jord_perm ds).length_eq, upto_length]
  have hmj := makespan_any w2 A A1 c c1 ds (jord ds) (Kd.C_below HK.out.1 H2.out.1) (by rw [hjl]; exact H2.out.2)
  rw [hjl, make_jord hE0, ordered_jord hE0] at hmj
  obtain ⟨m1, hm1⟩ : ∃ z, z = spanF ds (jord ds) := ⟨_, rfl⟩
  rw [← hm1] at hmj ⊢
  have HMJ := Aside0.mk hmj
  have HE0 := Aside0.mk hE0
  have HJL := Aside0.mk hjl
  have HM1 := Aside0.mk hm1
  clear hmj hjl hm1 hE0
  go_upto_region 8 with ((with_reducible refine HMJ.out.mono ?_); rintro e3 w3 ⟨rfl, hb3⟩; have H3 := Aside0.mk (And.intro (below_step H2.out.1 hb3) (Kd.C_below H2.out.2 hb3)); clear hb3)
  clear HMJ
  have ho1 := once_any w3 A1 c1 (jord ds) ds.length (by rw [HJL.out]; exact H3.out.2) (by omega)
  rw [HJL.out, decide_eq_true (jord_perm ds)] at ho1
  have HO1 := Aside0.mk ho1
  have ho2 := fun W (hW : Below w3.heap.size w3 W) => once_any W B d o ds.length (Kd.C_below HK.out.2 (below_step H3.out.1 hW)) (by omega)
  have HO2 := Aside0.mk ho2
  clear ho1 ho2
  have hmm : (m1 == m1) = true := by simp
  by_cases hf : f0 = 0
  · have hfb : (f0 != 0) = false := by simp [hf]
    have hfe : (f0 == 0) = true := by simp [hf]
    obtain ⟨_, hp⟩ := ordered_ok (HE.out.2.1.symm.trans hf)
    have hge : m1 ≤ m0 := by
      rw [HM1.out, HE.out.2.2]
      unfold makeF
      rw [if_pos (HE.out.2.1.symm.trans hf)]
      exact jord_best HE0.out hp
    have hd : decide (m1 ≤ m0) = true := decide_eq_true hge
    have HP : Aside0 (decide (o.Perm (upto ds.length)) = true) := ⟨decide_eq_true hp⟩
    have ho3 : ∀ W, Below w3.heap.size w3 W → Calls Try.prog 30 #[.slice B o.length d, .int .i64 ds.length] W fun e w' => e = .returned (.bool true) ∧ Below W.heap.size W w' := fun W hW => (HO2.out W hW).mono (fun e w' ⟨a, b⟩ => ⟨by rw [a, HP.out], b⟩)
    have HO3 := Aside0.mk ho3
    clear ho3 hf hp hge HO2
    go_wp2_with (first | ((with_reducible refine HO1.out.mono ?_); rintro e4 w4 ⟨rfl, hb4⟩; have H4 := Aside0.mk hb4; clear hb4) | ((with_reducible refine (HO3.out _ H4.out).mono ?_); rintro e5 w5 ⟨rfl, hb5⟩; have H5 := Aside0.mk (below_step H4.out hb5); clear hb5) | ((with_reducible refine (ha.out _).mono ?_); rintro e8 w8 ⟨rfl, hb8⟩; have H8 := Aside0.mk (below_step (below_step H3.out.1 H5.out) hb8); clear hb8))
    go_ret
    exact ⟨rfl, H8.out⟩
  · have hfb : (f0 != 0) = true := by simp [hf]
    have hm00 : m0 = 0 := by
      rw [HE.out.2.2]; unfold makeF; rw [if_neg (fun e => hf (HE.out.2.1.trans e))]
    subst hm00
    clear hf HO2
    go_wp2_with (first | ((with_reducible refine HO1.out.mono ?_); rintro e4 w4 ⟨rfl, hb4⟩; have H4 := Aside0.mk hb4; clear hb4) | ((with_reducible refine (ha.out _).mono ?_); rintro e8 w8 ⟨rfl, hb8⟩; have H8 := Aside0.mk (below_step (below_step H3.out.1 H4.out) hb8); clear hb8))
    go_ret
    exact ⟨rfl, H8.out⟩
theorem pjohnson_any (w : World) (A B : Option Addr) (c d : Nat) (ds : List (Int × Int)) (o : List Int) (h : kP.C w A ds.length ds) (k : (Kd.int .i64).C w B o.length o) :
    Calls Try.prog 10 #[.slice A ds.length c, .slice B o.length d] w fun e w' => e = .returned (.bool true) ∧ Below w.heap.size w w' := by
  by_cases hh : 80 < ds.length ∨ 80 < o.length
  · exact johnson_far w A B _ c _ d hh
  · exact johnson_near w A B c d ds o h k (by omega) (by omega)
end Go.Proofs.Ytnoocdobldchoaa

/- The reference's test is fed: its walk. Printed by gen_t12.py. -/
import Derived.Test.YthkfahkkcjagdaaMTc
namespace Go.Proofs.Ythkfahkkcjagdaa
open Go.RowKit Go.Proofs.YthkfahkkcjagdaaW.PrintWords Go.Proofs.YthkfahkkcjagdaaW.PrintMore Go.Proofs.YthkfahkkcjagdaaW.PrintLast
set_option linter.unusedSimpArgs false
set_option linter.unusedVariables false

theorem RF.below {w w3 w4 : World} {b0 b1 b2 : Nat} {A : Option Addr} {n c : Nat} {tol st : Int} {E : Option Addr} {k d : Nat} {s : Sb} (h : RF w w3 b0 b1 b2 A n c tol st E k d s) (hb : Below w3.heap.size w3 w4) : RF w w4 b0 b1 b2 A n c tol st E k d s :=
  ⟨h.e0, h.e1, h.e2, h.t.below hb, h.s.below hb, h.z.below hb, below_step h.h hb⟩
theorem RF.upto {w w3 w4 : World} {b0 b1 b2 N : Nat} {A : Option Addr} {n c : Nat} {tol st : Int} {E : Option Addr} {k d : Nat} {s : Sb} (h : RF w w3 b0 b1 b2 A n c tol st E k d s) (hb : Below N w3 w4) (hN : b2 < N) : RF w w4 b0 b1 b2 A n c tol st E k d s := by
  have e0 := h.e0
  have e1 := h.e1
  have e2 := h.e2
  exact ⟨h.e0, h.e1, h.e2, (hb.block _ (by omega)).trans h.t, (hb.block _ (by omega)).trans h.s, (hb.block _ hN).trans h.z, ⟨hb.os.trans h.h.os, hb.tape.trans h.h.tape, hb.output.trans h.h.output, Nat.le_trans h.h.size hb.size, fun k hk => (hb.block k (by omega)).trans (h.h.block k hk)⟩⟩
theorem RF.setL {w w3 : World} {b0 b1 b2 : Nat} {A : Option Addr} {n c : Nat} {tol st : Int} {E : Option Addr} {k d : Nat} {s : Sb} (h : RF w w3 b0 b1 b2 A n c tol st E k d s) (A' : Option Addr) (n' c' : Nat) : RF w (w3.setCell ⟨b0, 1, none⟩ (.slice A' n' c')) b0 b1 b2 A' n' c' tol st E k d s := by
  have e0 := h.e0
  have e1 := h.e1
  have e2 := h.e2
  exact ⟨h.e0, h.e1, h.e2, h.t.set 1 _, h.s.far (show b1 ≠ b0 by omega) _, h.z.far (show b2 ≠ b0 by omega) _, Below.setCell h.h (p := ⟨b0, 1, none⟩) (Nat.le_of_eq h.e0.symm) _⟩
theorem RF.setS {w w3 : World} {b0 b1 b2 : Nat} {A : Option Addr} {n c : Nat} {tol st : Int} {E : Option Addr} {k d : Nat} {s : Sb} (h : RF w w3 b0 b1 b2 A n c tol st E k d s) (st' : Int) : RF w (w3.setCell ⟨b0, 2, none⟩ (.int .i64 st')) b0 b1 b2 A n c tol st' E k d s := by
  have e0 := h.e0
  have e1 := h.e1
  have e2 := h.e2
  exact ⟨h.e0, h.e1, h.e2, h.t.set 2 _, h.s.far (show b1 ≠ b0 by omega) _, h.z.far (show b2 ≠ b0 by omega) _, Below.setCell h.h (p := ⟨b0, 2, none⟩) (Nat.le_of_eq h.e0.symm) _⟩
theorem RF.setU {w w3 : World} {b0 b1 b2 : Nat} {A : Option Addr} {n c : Nat} {tol st : Int} {E : Option Addr} {k d : Nat} {s : Sb} (h : RF w w3 b0 b1 b2 A n c tol st E k d s) (E' : Option Addr) (k' d' : Nat) : RF w (w3.setCell ⟨b0, 3, none⟩ (.slice E' k' d')) b0 b1 b2 A n c tol st E' k' d' s := by
  have e0 := h.e0
  have e1 := h.e1
  have e2 := h.e2
  exact ⟨h.e0, h.e1, h.e2, h.t.set 3 _, h.s.far (show b1 ≠ b0 by omega) _, h.z.far (show b2 ≠ b0 by omega) _, Below.setCell h.h (p := ⟨b0, 3, none⟩) (Nat.le_of_eq h.e0.symm) _⟩
theorem kQ_set {w : World} {N b0 : Nat} {ok : Nat → Prop} {v : Value} {xs : List Sb} {cs : List Value} (h : kQ.R 55 w N ok v xs) (hb : Blk w b0 cs 92) (j : Nat) (u : Value) : kQ.R 55 (w.setCell ⟨b0, j, none⟩ u) N ok v xs :=
  Kd.R_set h hb (by intro q hq; simp [kQ] at hq; omega) j u
theorem Kp.upto {S : Nat → Prop} {w w1 w2 : World} (h : Kp S w w1) (hb : Below w.heap.size w1 w2) : Kp S w w2 :=
  ⟨hb.os.trans h.os, hb.tape.trans h.tape, hb.output.trans h.output, Nat.le_trans h.size hb.size, fun i hi hn => (hb.block i hi).trans (h.block i hi hn)⟩
def usedP (X : List Sb) (N j : Nat) : List Int := ((upto N).filter fun x => decide (x ∈ segS X)) ++ (if (N : Int) ∈ (segS X).take j then [(N : Int)] else [])
theorem usedP_len (X : List Sb) (N j : Nat) : (usedP X N j).length ≤ N + 1 := by
  unfold usedP
  have h1 := List.length_filter_le (fun x => decide (x ∈ segS X)) (upto N)
  rw [upto_length] at h1
  rw [List.length_append]
  split <;> simp <;> omega
theorem usedP_zero (X : List Sb) : usedP X 0 0 = [] := by simp [usedP, upto]
theorem usedP_all (X : List Sb) : usedP X X.length 0 = usedS X := by simp [usedP, usedS]
theorem usedP_end (X : List Sb) (N j : Nat) (hj : (segS X).length ≤ j) : usedP X N j = usedP X (N + 1) 0 := by
  unfold usedP
  rw [List.take_of_length_le hj, List.take_zero, upto_succ, List.filter_append]
  by_cases h : (N : Int) ∈ segS X <;> simp [h]
theorem usedP_hit {X : List Sb} {N j : Nat} (hj : j < (segS X).length) (h : (segS X).getD j 0 = N) : usedP X N (j + 1) = usedP X N j ++ [(N : Int)] := by
  have hg : (segS X)[j] = (N : Int) := by rw [← h, List.getD_eq_getElem?_getD, List.getElem?_eq_getElem hj]; rfl
  have hnd := segS_nodup X
  have hn : (N : Int) ∉ (segS X).take j := by
    intro hm
    obtain ⟨i, hi, e⟩ := List.getElem_of_mem hm
    rw [List.length_take] at hi
    rw [List.getElem_take, ← hg] at e
    have := (List.getElem_inj hnd).1 e
    omega
  unfold usedP
  rw [List.take_succ_eq_append_getElem hj, hg, if_pos (by simp), if_neg hn]
  simp
theorem usedP_miss {X : List Sb} {N j : Nat} (hj : j < (segS X).length) (h : (segS X).getD j 0 ≠ N) : usedP X N (j + 1) = usedP X N j := by
  have hg : (segS X)[j] ≠ (N : Int) := by
    intro e; apply h; rw [← e, List.getD_eq_getElem?_getD, List.getElem?_eq_getElem hj]; rfl
  unfold usedP
  rw [List.take_succ_eq_append_getElem hj]
  have : ((N : Int) ∈ (segS X).take j ++ [(segS X)[j]]) ↔ (N : Int) ∈ (segS X).take j := by
    rw [List.mem_append, List.mem_singleton]
    exact ⟨fun h => h.elim id fun e => absurd e.symm hg, .inl⟩
  simp only [this]
theorem segS_at (X : List Sb) {j : Nat} (hj : j < X.length / 2 + 1) : (segS X).getD j 0 = (ordS X).getD (winS X + j) 0 := by
  unfold segS
  rw [List.getD_eq_getElem?_getD, List.getElem?_take_of_lt hj, List.getElem?_drop, List.getD_eq_getElem?_getD]
def RFeedPost (w : World) (xs : List Sb) (tol : Int) (e : Ending) (w' : World) : Prop :=
  ∃ A c E k d, e = .returned (.tuple #[.agg #[.int .i64 tol, .slice A xs.length c, .int .i64 (fedSt xs tol), .slice E k d], .int .i64 0]) ∧ kQ.R 55 w' w.heap.size (fun _ => True) (.slice A xs.length c) xs ∧ RI w' w.heap.size (fun _ => True) (.slice E k d) (fedUs xs tol) ∧ Below w.heap.size w w' ∧ (fedSt xs tol = 0 → E = none ∧ d = 0)
set_option maxHeartbeats 16000000 in
set_option maxRecDepth 100000 in
theorem rfeedC_any (w : World) (A : Option Addr) (n c : Nat) (xs : List Sb) (tol : Int) (hn : xs.length = n) (h : kQ.C w A n xs) (hok : ∀ s ∈ xs, SbOK s) (hl : n < 8) (ht : 0 ≤ tol ∧ tol ≤ 10000) {s : Sb} (hs : SbOK s) :
    Calls Try.prog 57 #[.agg #[.int .i64 tol, .slice A n c, .int .i64 0, .slice none 0 0], .agg #[.int .i64 s.raw, .int .i64 s.dry, .int .i64 s.ash, .int .i64 s.gre, .int .i64 s.veg]] w (RFeedPost w (xs ++ [s]) tol) := by
  obtain ⟨w3, hw3⟩ : ∃ z, z = ((w.alloc (.cells #[.int .i64 tol, .slice A n c, .int .i64 0, .slice none 0 0] 92)).alloc (.cells #[.int .i64 s.raw, .int .i64 s.dry, .int .i64 s.ash, .int .i64 s.gre, .int .i64 s.veg] 55)).alloc (.cells #[.int .i64 0, .slice none 0 0, .int .i64 0, .slice none 0 0] 92) := ⟨_, rfl⟩
  have HRF := Aside0.mk (RF.new w A n c tol 0 none 0 0 s)
  rw [← hw3] at HRF
  have HW := Aside0.mk hw3
  have HSU := Aside0.mk (fun W => valid_any W s)
  rw [sbB_yes hs] at HSU
  have HC := Aside0.mk (And.intro hn (And.intro hok (And.intro ht (And.intro hs (Kd.C_below h HRF.out.h)))))
  clear hs hw3 h hok hn
  obtain ⟨ht1, ht2⟩ := ht
  obtain ⟨X, hX⟩ : ∃ z, z = xs ++ [s] := ⟨_, rfl⟩
  rw [← hX]
  have HX := Aside0.mk hX
  clear hX
  obtain ⟨P, hP⟩ : ∃ P, P = RFeedPost w X tol := ⟨_, rfl⟩
  rw [← hP]
  have HP := Aside0.mk hP
  clear hP
  obtain ⟨sr, sd, sa, sg, sv⟩ := s
  dsimp only at HSU HW HRF ⊢
  go_enter Try.func57, Try.ntmps57
  go_upto_region 1 with fail
  rw [← HW.out]
  obtain ⟨b0, hb0⟩ : ∃ z, z = w.heap.size := ⟨_, rfl⟩
  obtain ⟨b1, hb1⟩ : ∃ z, z = b0 + 1 := ⟨_, rfl⟩
  obtain ⟨b2, hb2⟩ : ∃ z, z = b1 + 1 := ⟨_, rfl⟩
  rw [← hb0, ← hb1, ← hb2] at HRF ⊢
  have HBB : Aside0 (b0 = w.heap.size ∧ b1 = b0 + 1 ∧ b2 = b1 + 1) := ⟨hb0, hb1, hb2⟩
  clear hb0 hb1 hb2 HW
  have c0 := HRF.out.s.at_ (i := 0) rfl
  have c1 := HRF.out.s.at_ (i := 1) rfl
  have c2 := HRF.out.s.at_ (i := 2) rfl
  have c3 := HRF.out.s.at_ (i := 3) rfl
  have c4 := HRF.out.s.at_ (i := 4) rfl
  have s0 := HRF.out.t.at_ (i := 0) rfl
  have s1 := HRF.out.t.at_ (i := 1) rfl
  have s2 := HRF.out.t.at_ (i := 2) rfl
  have s3 := HRF.out.t.at_ (i := 3) rfl
  go_upto_region 6 with ((with_reducible refine (HSU.out _).mono ?_); rintro e5 w5 ⟨rfl, hb5⟩; have HB5 := Aside0.mk hb5; clear hb5)
  clear c0 c1 c2 c3 c4 s0 s1 s2 s3
  have H5 := Aside0.mk (And.intro (HRF.out.below HB5.out) (Kd.C_below HC.out.2.2.2.2 HB5.out))
  clear HRF
  have s0 := H5.out.1.t.at_ (i := 0) rfl
  have s1 := H5.out.1.t.at_ (i := 1) rfl
  have s2 := H5.out.1.t.at_ (i := 2) rfl
  have s3 := H5.out.1.t.at_ (i := 3) rfl

  go_upto_region 7 with ((with_reducible refine gate_builtin (b := .append) (xs := #[.tmp 21, .tmp 23]) rfl ?_); at_builtin; refine Kd.R_append_rows kQ (w0 := w5) w5.heap.size rfl (.tmp 21) (.tmp 23) 78 55 (.agg #[.int .i64 0, .int .i64 0, .int .i64 0, .int .i64 0, .int .i64 0]) 40 rfl Try.underlying78 info55 rfl (by decide) (by decide) (.slice none 0 0) [] xs _ _ _ (fun _ => True) (fun _ => False) rfl rfl ?aO ?aR (fun _ _ h => h) (fun _ h => h.elim) ?aF ?aB ?aS ?aL ?_; (case aR => exact H5.out.2); (case aB => exact Below.refl _ _); (case aF => exact (fun _ _ => trivial)); (case aO => exact Kd.R_nil _ _ _ _ _); (case aS => exact Nat.le_refl _); (case aL => first | (simp; done) | (simp; omega)); intro v6 w6 ho hb hg hat; rw [List.nil_append] at ho; have H6 := Aside0.mk (And.intro ho (And.intro (H5.out.1.below hb) hb)); clear ho hb hg hat)
  clear s0 s1 s2 s3
  have c0 := H6.out.2.1.s.at_ (i := 0) rfl
  have c1 := H6.out.2.1.s.at_ (i := 1) rfl
  have c2 := H6.out.2.1.s.at_ (i := 2) rfl
  have c3 := H6.out.2.1.s.at_ (i := 3) rfl
  have c4 := H6.out.2.1.s.at_ (i := 4) rfl
  have s0 := H6.out.2.1.t.at_ (i := 0) rfl
  have s1 := H6.out.2.1.t.at_ (i := 1) rfl
  have s2 := H6.out.2.1.t.at_ (i := 2) rfl
  have s3 := H6.out.2.1.t.at_ (i := 3) rfl

  go_upto_region 8 with ((with_reducible refine gate_builtin (b := .append) (xs := #[.tmp 25, .tmp 27]) rfl ?_); at_builtin; refine Kd.R_append kQ (w0 := w6) w5.heap.size rfl (.tmp 25) (.tmp 27) 78 55 (.agg #[.int .i64 0, .int .i64 0, .int .i64 0, .int .i64 0, .int .i64 0]) 40 rfl Try.underlying78 info55 rfl (by decide) (by decide) v6 xs ⟨sr, sd, sa, sg, sv⟩ [.int .i64 sr, .int .i64 sd, .int .i64 sa, .int .i64 sg, .int .i64 sv] (fun _ => True) (fun _ => False) rfl rfl ?aP (fun _ hk => hk.elim) ?aF ?aO ?aB ?aS ?aL ?_; (case aP => exact rfl); (case aB => exact Below.refl _ _); (case aF => exact (fun _ _ => trivial)); (case aO => exact H6.out.1); (case aS => exact H6.out.2.2.size); (case aL => rw [HC.out.1]; omega); intro v7 w7 ho hb hg hat; obtain ⟨A7, c7, hv7⟩ := Kd.R_slice ho; rw [← HX.out] at ho hv7; subst hv7; have H7 := Aside0.mk (And.intro (Kd.R_lower ho H5.out.1.h.size) (H6.out.2.1.upto hb H5.out.1.z.lt)); have s0 := H7.out.2.t.at_ (i := 0) rfl; have s1 := H7.out.2.t.at_ (i := 1) rfl; have s2 := H7.out.2.t.at_ (i := 2) rfl; have s3 := H7.out.2.t.at_ (i := 3) rfl; have sf := H7.out.2.t.free; clear ho hb hg hat)
  clear s0 s1 s2 s3 sf
  have H8 := Aside0.mk (And.intro (kQ_set H7.out.1 H7.out.2.t 1 (.slice A7 X.length c7)) (H7.out.2.setL A7 X.length c7))
  obtain ⟨m, hm⟩ : ∃ z, z = X.length := ⟨_, rfl⟩
  have HM := Aside0.mk hm
  have hm8 : m ≤ 8 := by rw [hm, HX.out, List.length_append, HC.out.1]; simp; omega
  have hm1 : 1 ≤ m := by rw [hm, HX.out, List.length_append]; simp
  rw [← hm] at H8 ⊢
  generalize w7.setCell ⟨b0, 1, none⟩ (.slice A7 m c7) = w8 at H8 ⊢
  clear hm
  have s0 := H8.out.2.t.at_ (i := 0) rfl
  have s1 := H8.out.2.t.at_ (i := 1) rfl
  have s2 := H8.out.2.t.at_ (i := 2) rfl
  have s3 := H8.out.2.t.at_ (i := 3) rfl
  have z0 := H8.out.2.z.at_ (i := 0) rfl
  have z1 := H8.out.2.z.at_ (i := 1) rfl
  have z2 := H8.out.2.z.at_ (i := 2) rfl
  have z3 := H8.out.2.z.at_ (i := 3) rfl

  have zf := H8.out.2.z.free
  by_cases hpar : m % 2 = 1
  · have p1 : ((m : Int) % 2 == 1) = true := by simp; omega
    have p2 : (Int.tmod (m : Int) 2 == 1) = true := by rw [Int.tmod_eq_emod_of_nonneg (by omega)]; exact p1
    have HPA := Aside0.mk hpar
    clear hpar
    go_wp2_with fail
    have hF := (((H8.out.2.z.set 0 (.int .i64 tol)).set 1 (.slice A7 m c7)).set 2 (.int .i64 0)).set 3 (.slice none 0 0)
    have r0 := hF.at_ (i := 0) rfl
    have r1 := hF.at_ (i := 1) rfl
    have r2 := hF.at_ (i := 2) rfl
    have r3 := hF.at_ (i := 3) rfl
    refine bodyPost_ret (v := .tuple #[.agg #[.int .i64 tol, .slice A7 m c7, .int .i64 0, .slice none 0 0], .int .i64 0]) (by simp [results, Try.results57, go_sem, r0, r1, r2, r3]) rfl ?_
    rw [HP.out]
    refine ⟨A7, c7, none, 0, 0, ?_, ?_, ?_, ?_, fun _ => ⟨rfl, rfl⟩⟩
    · unfold fedSt; rw [← HM.out, if_pos HPA.out]
    · rw [← HM.out]; exact kQ_set (kQ_set (kQ_set (kQ_set H8.out.1 H8.out.2.z 0 _) (H8.out.2.z.set 0 _) 1 _) ((H8.out.2.z.set 0 _).set 1 _) 2 _) (((H8.out.2.z.set 0 _).set 1 _).set 2 _) 3 _
    · unfold fedUs; rw [← HM.out, if_pos HPA.out]; exact Kd.R_nil _ _ _ _ _
    · have hb2 : w.heap.size ≤ b2 := by have := HBB.out; omega
      exact Below.setCell (Below.setCell (Below.setCell (Below.setCell (H8.out.2.h) (p := ⟨b2, 0, none⟩) hb2 _) (p := ⟨b2, 1, none⟩) hb2 _) (p := ⟨b2, 2, none⟩) hb2 _) (p := ⟨b2, 3, none⟩) hb2 _
  · have p1 : ((m : Int) % 2 == 1) = false := by simp; omega
    have p2 : (Int.tmod (m : Int) 2 == 1) = false := by rw [Int.tmod_eq_emod_of_nonneg (by omega)]; exact p1
    have HPA := Aside0.mk hpar
    have HXO : Aside0 (∀ y ∈ X, SbOK y) := ⟨by
      rw [HX.out]
      intro y hy
      rcases List.mem_append.1 hy with h | h
      · exact HC.out.2.1 y h
      · rw [List.mem_singleton.1 h]; exact HC.out.2.2.2.1⟩
    have hk8 : kQ.C w8 A7 m X := by
      obtain ⟨A', c', e, _, hc⟩ := Kd.R_reads H8.out.1
      cases e
      rw [← HM.out] at hc
      exact hc
    have HWI := Aside0.mk (rwindow_any w8 A7 m (m / 2) c7 X tol 0 (.slice none 0 0) HM.out.symm (by omega) (by omega) (by omega) hk8 HXO.out HC.out.2.2.1 rfl)
    clear hpar hk8
    go_upto_region 11 with ((with_reducible refine HWI.out.mono ?_); rintro e9 w9 ⟨rfl, hb9⟩; have H9 := Aside0.mk (And.intro (Kd.R_below H8.out.1 hb9) (H8.out.2.below hb9)); clear hb9)
    clear s0 s1 s2 s3 z0 z1 z2 z3 zf p1 p2
    have s0 := H9.out.2.t.at_ (i := 0) rfl
    have s1 := H9.out.2.t.at_ (i := 1) rfl
    have s2 := H9.out.2.t.at_ (i := 2) rfl
    have s3 := H9.out.2.t.at_ (i := 3) rfl
    have z0 := H9.out.2.z.at_ (i := 0) rfl
    have z1 := H9.out.2.z.at_ (i := 1) rfl
    have z2 := H9.out.2.z.at_ (i := 2) rfl
    have z3 := H9.out.2.z.at_ (i := 3) rfl
    have zf := H9.out.2.z.free
    have sf := H9.out.2.t.free
    by_cases hgo : goodS X tol
    · have HGO := Aside0.mk hgo
      have dg : decide (goodS X tol) = true := decide_eq_true hgo
      rw [dg]
      clear hgo dg
      have hwl : winS X + (m / 2 + 1) ≤ m := by
        have := winB_le (winG X) (winD X) (X.length / 2 - 1)
        unfold winS
        rw [← HM.out] at this ⊢
        have := HPA.out
        omega
      obtain ⟨ws, hws⟩ : ∃ z, z = winS X := ⟨_, rfl⟩
      obtain ⟨q, hq⟩ : ∃ z, z = m / 2 := ⟨_, rfl⟩
      have HWQ : Aside0 (ws = winS X ∧ q = m / 2) := ⟨hws, hq⟩
      rw [← hws, ← hq] at hwl
      have hqi : (m : Int) / 2 = (q : Int) := by omega
      rw [← hws]
      first | rw [hqi] | rw [← hq]
      clear hws hq hqi
      go_upto_region 13 with fail
      have H10 := Aside0.mk (And.intro (kQ_set H9.out.1 H9.out.2.t 2 (.int .i64 1)) (H9.out.2.setS 1))
      generalize w9.setCell ⟨b0, 2, none⟩ (.int .i64 1) = w10 at H10 ⊢
      clear s0 s1 s2 s3 z0 z1 z2 z3 zf sf
      have s0 := H10.out.2.t.at_ (i := 0) rfl
      have s1 := H10.out.2.t.at_ (i := 1) rfl
      have s2 := H10.out.2.t.at_ (i := 2) rfl
      have s3 := H10.out.2.t.at_ (i := 3) rfl
      have hk10 : kQ.C w10 A7 m X := by
        obtain ⟨A', c', e, _, hc⟩ := Kd.R_reads H10.out.1
        cases e
        rw [← HM.out] at hc
        exact hc
      have HOR := Aside0.mk (rorder_any w10 A7 m c7 X tol 1 (.slice none 0 0) HM.out.symm hk10 HXO.out hm8)
      clear hk10
      go_upto_region 14 with ((with_reducible refine HOR.out.mono ?_); rintro e11 w11 ⟨v11, rfl, hr11, hb11⟩; have H11 := Aside0.mk (And.intro hr11 (And.intro (Kd.R_below H10.out.1 hb11) (H10.out.2.below hb11))); clear hr11 hb11)
      clear s0 s1 s2 s3
      obtain ⟨B, cB, hv11, hcB, hB⟩ := Kd.R_reads H11.out.1
      rw [ordS_length, ← HM.out] at hv11 hcB hB
      subst hv11
      have HBK : Aside0 (∀ W, Kp (fun k => k = b0) w11 W → (Kd.int .i64).C W B m (ordS X)) := ⟨fun W kk => by
        have hr := Kd.R_step (Kd.R_types H11.out.1 H11.out.2.2.t (by intro q hq; simp [Kd.int, Kd.scalar] at hq; omega)) fun i hi hl => kk.block i hl hi.2
        obtain ⟨B', c', e, _, hc⟩ := Kd.R_reads hr
        cases e
        rw [ordS_length, ← HM.out] at hc
        exact hc⟩
      clear hB
      go_upto_region 15 with fail
      go_loopw [11, 12] (fun v _ wr => ∃ N : Nat, v = .int .i64 N ∧ N ≤ m ∧ Aside0 (∃ E k d, Kp (fun k => k = b0) w11 wr ∧ Blk wr b0 [.int .i64 tol, .slice A7 m c7, .int .i64 1, .slice E k d] 92 ∧ RI wr w11.heap.size (fun _ => True) (.slice E k d) (usedP X N 0))) (fun v _ _ => m - (intOf v).toNat)
      case atStart => exact ⟨0, rfl, by omega, ⟨none, 0, 0, Kp.refl _ _, H11.out.2.2.t, by rw [usedP_zero]; exact Kd.R_nil _ _ _ _ _⟩⟩
      case round =>
        obtain ⟨N, rfl, hN, HI⟩ := hrel
        obtain ⟨E, k, d, hi1, hi2, hi3⟩ := HI.out
        have HJ0 := Aside0.mk (And.intro hi1 (And.intro hi2 hi3))
        have s0 := hi2.at_ (i := 0) rfl
        have s1 := hi2.at_ (i := 1) rfl
        have s2 := hi2.at_ (i := 2) rfl
        have s3 := hi2.at_ (i := 3) rfl
        clear hi1 hi2 hi3 HI
        by_cases hNm : N < m
        · have hNmi : (N : Int) < m := by omega
          go_upto_region 18 with fail
          clear s0 s1 s2 s3
          go_loopw [12] (fun v wr => ∃ j : Nat, v = .int .i64 ((ws + j : Nat) : Int) ∧ j ≤ q + 1 ∧ Aside0 (∃ E k d, Kp (fun k => k = b0) w11 wr ∧ Blk wr b0 [.int .i64 tol, .slice A7 m c7, .int .i64 1, .slice E k d] 92 ∧ RI wr w11.heap.size (fun _ => True) (.slice E k d) (usedP X N j))) (fun v _ => ws + q + 1 - (intOf v).toNat)
          case atStart => exact ⟨0, rfl, by omega, ⟨_, _, _, HJ0.out⟩⟩
          case round =>
            obtain ⟨j, rfl, hj, HI⟩ := hrel
            obtain ⟨E, k, d, hi1, hi2, hi3⟩ := HI.out
            have HJ := Aside0.mk (And.intro hi1 (And.intro hi2 hi3))
            have s3 := hi2.at_ (i := 3) rfl
            have sf := hi2.free
            clear hi2 hi3 HI
            by_cases hjq : j < q + 1
            · have hjqi : ((ws + j : Nat) : Int) < (ws : Int) + ((q : Int) + 1) := by omega
              have hjm : ((ws + j : Nat) : Int) < m := by omega
              obtain ⟨ad, e1, o1⟩ := Kd.at_int (HBK.out _ hi1) ((ws + j : Nat) : Int) (by omega) hjm
              cases e1
              have hsl : j < (segS X).length := by rw [segS_length (by rw [← HM.out]; omega) (by rw [← HM.out]; have := HPA.out; omega), ← HM.out, ← HWQ.out.2]; exact hjq
              have hsa := segS_at X (j := j) (by rw [← HM.out, ← HWQ.out.2]; exact hjq)
              rw [← HWQ.out.1] at hsa
              rw [Int.toNat_natCast, show rd (ordS X) ((ws + j : Nat) : Int) = (segS X).getD j 0 by unfold rd; rw [Int.toNat_natCast, hsa]] at o1
              obtain ⟨u, hu⟩ : ∃ u, u = (segS X).getD j 0 := ⟨_, rfl⟩
              rw [← hu] at o1
              have HU := Aside0.mk (And.intro hu hsl)
              clear hi1 hu hsl hsa
              have hk0 : (0 : Int) ≤ ((ws + j : Nat) : Int) := by omega
              have hk1 : (((ws + j : Nat) : Int)).toNat = ws + j := Int.toNat_natCast _
              have hN9 := usedP_len X N j
              by_cases hun : u = (N : Int)
              · have du : (u == (N : Int)) = true := by simpa using hun
                have HUN := Aside0.mk hun
                clear hun
                go_upto_region 21 with fail
                go_wp2_with ((with_reducible refine gate_builtin (b := .append) (xs := #[.tmp 68, .tmp 70]) rfl ?_); at_builtin; refine Kd.R_append (Kd.int .i64) (w0 := wr) w11.heap.size rfl (.tmp 68) (.tmp 70) 35 3 (.int .i64 0) 8 rfl Try.underlying35 info3 rfl (by decide) (by decide) (.slice E k d) (usedP X N j) (N : Int) [.int .i64 (N : Int)] (fun _ => True) (fun _ => False) rfl rfl ?aP (fun _ hk => hk.elim) ?aF ?aO ?aB ?aS ?aL ?_; (case aP => exact rfl); (case aB => exact Below.refl _ _); (case aF => exact (fun _ _ => trivial)); (case aO => exact HJ.out.2.2); (case aS => exact HJ.out.1.size); (case aL => omega); intro v7 w12 ho hb hg hat; obtain ⟨E2, d2, hv7⟩ := Kd.R_slice ho; rw [List.length_append, List.length_singleton] at hv7; subst hv7; have hb0 : Blk w12 b0 [.int .i64 tol, .slice A7 m c7, .int .i64 1, .slice E k d] 92 := (hb.block b0 H11.out.2.2.t.lt).trans HJ.out.2.1; have H12 := Aside0.mk (And.intro ho (And.intro (HJ.out.1.upto hb) hb0)); have s3 := hb0.at_ (i := 3) rfl; have sf := hb0.free; clear ho hb hg hat hb0)
                go_roundw
                case rel => exact ⟨j + 1, by go_num, by omega, ⟨E2, _, d2, H12.out.2.1.setCell (fun _ => rfl) _, H12.out.2.2.set 3 _, by rw [usedP_hit HU.out.2 (HU.out.1.symm.trans HUN.out)]; exact Kd.R_set H12.out.1 H12.out.2.2 (by intro q hq; simp [Kd.int, Kd.scalar] at hq; omega) 3 _⟩⟩
                case measure => simp [intOf]; omega
              · have du : (u == (N : Int)) = false := by simpa using hun
                have HUN := Aside0.mk hun
                clear hun
                go_wp2_with fail
                go_roundw
                case rel => exact ⟨j + 1, by go_num, by omega, ⟨E, k, d, HJ.out.1, HJ.out.2.1, by rw [usedP_miss HU.out.2 (fun e => HUN.out (HU.out.1.trans e))]; exact HJ.out.2.2⟩⟩
                case measure => simp [intOf]; omega
            · have hjqi : ¬ ((ws + j : Nat) : Int) < (ws : Int) + ((q : Int) + 1) := by omega
              have hsl : (segS X).length ≤ j := by rw [segS_length (by rw [← HM.out]; omega) (by rw [← HM.out]; have := HPA.out; omega), ← HM.out, ← HWQ.out.2]; omega
              have HSL := Aside0.mk hsl
              clear hi1 hsl
              go_wp2_with fail
              go_roundw
              case rel => exact ⟨N + 1, by go_num, by omega, ⟨E, k, d, HJ.out.1, HJ.out.2.1, by rw [← usedP_end X N j HSL.out]; exact HJ.out.2.2⟩⟩
              case measure => simp [intOf]; omega
        · have hNmi : ¬ (N : Int) < m := by omega
          have hz := H11.out.2.2.z.kp HJ0.out.1 (by have := HBB.out; omega)
          have HZ := Aside0.mk hz
          have z0 := hz.at_ (i := 0) rfl
          have z1 := hz.at_ (i := 1) rfl
          have z2 := hz.at_ (i := 2) rfl
          have z3 := hz.at_ (i := 3) rfl
          have zf := hz.free
          have hR := Kd.R_lower HJ0.out.2.2 (Nat.le_trans H11.out.2.2.h.size (Nat.le_refl _))
          rw [show N = X.length by rw [← HM.out]; omega, usedP_all] at hR
          obtain ⟨A9, c9, e9, hl9⟩ : ∃ A9 c9, (Value.slice E k d) = .slice A9 (usedS X).length c9 ∧ True := by
            obtain ⟨A9, c9, e⟩ := Kd.R_slice hR
            exact ⟨A9, c9, e, trivial⟩
          have hQ : kQ.R 55 wr w.heap.size (fun _ => True) (.slice A7 m c7) X :=
            Kd.R_mono (Kd.R_step (Kd.R_types H11.out.2.1 H11.out.2.2.t (by intro q hq; simp [kQ] at hq; omega)) fun i hi hl => HJ0.out.1.block i hl hi.2) (fun _ h => trivial)
          have hBw : Below w.heap.size w wr := ((Kp.of_below H11.out.2.2.h : Kp (fun k => k = b0) w w11).step ⟨HJ0.out.1.os, HJ0.out.1.tape, HJ0.out.1.output, HJ0.out.1.size, HJ0.out.1.block⟩).below_of (fun k hk => by have := HBB.out; omega)
          have HF := Aside0.mk (And.intro hR (And.intro hQ hBw))
          clear hz hR hQ hBw e9 hl9
          go_wp2_with fail
          have hF := (((HZ.out.set 0 (.int .i64 tol)).set 1 (.slice A7 m c7)).set 2 (.int .i64 1)).set 3 (.slice E k d)
          have r0 := hF.at_ (i := 0) rfl
          have r1 := hF.at_ (i := 1) rfl
          have r2 := hF.at_ (i := 2) rfl
          have r3 := hF.at_ (i := 3) rfl
          refine bodyPost_ret (v := .tuple #[.agg #[.int .i64 tol, .slice A7 m c7, .int .i64 1, .slice E k d], .int .i64 0]) (by simp [results, Try.results57, go_sem, r0, r1, r2, r3]) rfl ?_
          rw [HP.out]
          have ty3 : ∀ q, q ∈ 3 :: (Kd.int .i64).E → q ≠ 92 := by intro q h; simp [Kd.int, Kd.scalar] at h; omega
          refine ⟨A7, c7, E, k, d, ?_, ?_, ?_, ?_, fun h => by unfold fedSt at h; rw [← HM.out, if_neg HPA.out, if_pos HGO.out] at h; exact absurd h (by decide)⟩
          · unfold fedSt; rw [← HM.out, if_neg HPA.out, if_pos HGO.out]
          · rw [← HM.out]; exact kQ_set (kQ_set (kQ_set (kQ_set HF.out.2.1 HZ.out 0 _) (HZ.out.set 0 _) 1 _) ((HZ.out.set 0 _).set 1 _) 2 _) (((HZ.out.set 0 _).set 1 _).set 2 _) 3 _
          · unfold fedUs; rw [← HM.out, if_neg HPA.out, if_pos HGO.out]
            exact Kd.R_set (Kd.R_set (Kd.R_set (Kd.R_set HF.out.1 HZ.out ty3 0 _) (HZ.out.set 0 _) ty3 1 _) ((HZ.out.set 0 _).set 1 _) ty3 2 _) (((HZ.out.set 0 _).set 1 _).set 2 _) ty3 3 _
          · have hb2 : w.heap.size ≤ b2 := by have := HBB.out; omega
            exact Below.setCell (Below.setCell (Below.setCell (Below.setCell (HF.out.2.2) (p := ⟨b2, 0, none⟩) hb2 _) (p := ⟨b2, 1, none⟩) hb2 _) (p := ⟨b2, 2, none⟩) hb2 _) (p := ⟨b2, 3, none⟩) hb2 _
    · have HGO := Aside0.mk hgo
      have dg : decide (goodS X tol) = false := decide_eq_false hgo
      rw [dg]
      clear hgo dg
      by_cases h8 : m = 8
      · have d8 : decide ((m : Int) ≥ 8) = true := decide_eq_true (by omega)
        have HM8 := Aside0.mk h8
        clear h8
        go_upto_region 24 with fail
        have H10 := Aside0.mk (And.intro (kQ_set H9.out.1 H9.out.2.t 2 (.int .i64 2)) (H9.out.2.setS 2))
        generalize w9.setCell ⟨b0, 2, none⟩ (.int .i64 2) = w10 at H10 ⊢
        clear s0 s1 s2 s3 z0 z1 z2 z3 zf sf
        have s0 := H10.out.2.t.at_ (i := 0) rfl
        have s1 := H10.out.2.t.at_ (i := 1) rfl
        have s2 := H10.out.2.t.at_ (i := 2) rfl
        have s3 := H10.out.2.t.at_ (i := 3) rfl
        have z0 := H10.out.2.z.at_ (i := 0) rfl
        have z1 := H10.out.2.z.at_ (i := 1) rfl
        have z2 := H10.out.2.z.at_ (i := 2) rfl
        have z3 := H10.out.2.z.at_ (i := 3) rfl
        have zf := H10.out.2.z.free
        go_wp2_with fail
        have hF := (((H10.out.2.z.set 0 (.int .i64 tol)).set 1 (.slice A7 m c7)).set 2 (.int .i64 2)).set 3 (.slice none 0 0)
        have r0 := hF.at_ (i := 0) rfl
        have r1 := hF.at_ (i := 1) rfl
        have r2 := hF.at_ (i := 2) rfl
        have r3 := hF.at_ (i := 3) rfl
        refine bodyPost_ret (v := .tuple #[.agg #[.int .i64 tol, .slice A7 m c7, .int .i64 2, .slice none 0 0], .int .i64 0]) (by simp [results, Try.results57, go_sem, r0, r1, r2, r3]) rfl ?_
        rw [HP.out]
        refine ⟨A7, c7, none, 0, 0, ?_, ?_, ?_, ?_, fun _ => ⟨rfl, rfl⟩⟩
        · unfold fedSt; rw [← HM.out, if_neg HPA.out, if_neg HGO.out, if_pos HM8.out]
        · rw [← HM.out]; exact kQ_set (kQ_set (kQ_set (kQ_set H10.out.1 H10.out.2.z 0 _) (H10.out.2.z.set 0 _) 1 _) ((H10.out.2.z.set 0 _).set 1 _) 2 _) (((H10.out.2.z.set 0 _).set 1 _).set 2 _) 3 _
        · unfold fedUs; rw [← HM.out, if_neg HPA.out, if_neg HGO.out]; exact Kd.R_nil _ _ _ _ _
        · have hb2 : w.heap.size ≤ b2 := by have := HBB.out; omega
          exact Below.setCell (Below.setCell (Below.setCell (Below.setCell (H10.out.2.h) (p := ⟨b2, 0, none⟩) hb2 _) (p := ⟨b2, 1, none⟩) hb2 _) (p := ⟨b2, 2, none⟩) hb2 _) (p := ⟨b2, 3, none⟩) hb2 _
      · have d8 : decide ((m : Int) ≥ 8) = false := decide_eq_false (by omega)
        have HM8 := Aside0.mk h8
        clear h8
        go_wp2_with fail
        have hF := (((H9.out.2.z.set 0 (.int .i64 tol)).set 1 (.slice A7 m c7)).set 2 (.int .i64 0)).set 3 (.slice none 0 0)
        have r0 := hF.at_ (i := 0) rfl
        have r1 := hF.at_ (i := 1) rfl
        have r2 := hF.at_ (i := 2) rfl
        have r3 := hF.at_ (i := 3) rfl
        refine bodyPost_ret (v := .tuple #[.agg #[.int .i64 tol, .slice A7 m c7, .int .i64 0, .slice none 0 0], .int .i64 0]) (by simp [results, Try.results57, go_sem, r0, r1, r2, r3]) rfl ?_
        rw [HP.out]
        refine ⟨A7, c7, none, 0, 0, ?_, ?_, ?_, ?_, fun _ => ⟨rfl, rfl⟩⟩
        · unfold fedSt; rw [← HM.out, if_neg HPA.out, if_neg HGO.out, if_neg HM8.out]
        · rw [← HM.out]; exact kQ_set (kQ_set (kQ_set (kQ_set H9.out.1 H9.out.2.z 0 _) (H9.out.2.z.set 0 _) 1 _) ((H9.out.2.z.set 0 _).set 1 _) 2 _) (((H9.out.2.z.set 0 _).set 1 _).set 2 _) 3 _
        · unfold fedUs; rw [← HM.out, if_neg HPA.out, if_neg HGO.out]; exact Kd.R_nil _ _ _ _ _
        · have hb2 : w.heap.size ≤ b2 := by have := HBB.out; omega
          exact Below.setCell (Below.setCell (Below.setCell (Below.setCell (H9.out.2.h) (p := ⟨b2, 0, none⟩) hb2 _) (p := ⟨b2, 1, none⟩) hb2 _) (p := ⟨b2, 2, none⟩) hb2 _) (p := ⟨b2, 3, none⟩) hb2 _
end Go.Proofs.Ythkfahkkcjagdaa
namespace Go.Proofs.Ythkfahkkcjagdaa
open Go.RowKit Go.Proofs.YthkfahkkcjagdaaW.PrintWords Go.Proofs.YthkfahkkcjagdaaW.PrintMore Go.Proofs.YthkfahkkcjagdaaW.PrintLast
set_option linter.unusedSimpArgs false
set_option linter.unusedVariables false

theorem rresA_any (w : World) (A : Option Addr) (n c : Nat) (tol st : Int) (E : Option Addr) (k d : Nat) (hst : st ≠ 1) :
    Calls Try.prog 59 #[.agg #[.int .i64 tol, .slice A n c, .int .i64 st, .slice E k d]] w fun e w' => e = .returned (.tuple #[.agg #[.int .i64 0, .int .i64 0, .int .i64 0, .slice none 0 0], .int .i64 10]) ∧ Below w.heap.size w w' := by
  have q := Blk.new w [.int .i64 tol, .slice A n c, .int .i64 st, .slice E k d] 92
  have c0 := (q.alloc (.cells #[.int .i64 0, .int .i64 0, .int .i64 0, .slice none 0 0] 83)).at_ (i := 0) rfl
  have c1 := (q.alloc (.cells #[.int .i64 0, .int .i64 0, .int .i64 0, .slice none 0 0] 83)).at_ (i := 1) rfl
  have c2 := (q.alloc (.cells #[.int .i64 0, .int .i64 0, .int .i64 0, .slice none 0 0] 83)).at_ (i := 2) rfl
  have c3 := (q.alloc (.cells #[.int .i64 0, .int .i64 0, .int .i64 0, .slice none 0 0] 83)).at_ (i := 3) rfl
  have d0 : (st != 1) = true := by simpa using hst
  obtain ⟨w2, hw2⟩ : ∃ z, z = (w.alloc (.cells #[.int .i64 tol, .slice A n c, .int .i64 st, .slice E k d] 92)).alloc (.cells #[.int .i64 0, .int .i64 0, .int .i64 0, .slice none 0 0] 83) := ⟨_, rfl⟩
  have HW := Aside0.mk hw2
  have HB : Aside0 (Below w.heap.size w w2) := ⟨by rw [hw2]; exact below_alloc (below_alloc (Below.refl _ _) _) _⟩
  have qz : Blk w2 (w.heap.size + 1) [.int .i64 0, .int .i64 0, .int .i64 0, .slice none 0 0] 83 := by
    have h := Blk.new (w.alloc (.cells #[.int .i64 tol, .slice A n c, .int .i64 st, .slice E k d] 92)) [.int .i64 0, .int .i64 0, .int .i64 0, .slice none 0 0] 83
    rw [show (w.alloc (.cells #[.int .i64 tol, .slice A n c, .int .i64 st, .slice E k d] 92)).heap.size = w.heap.size + 1 by simp] at h
    rw [hw2]
    exact h
  rw [← hw2] at c0 c1 c2 c3
  clear q hst hw2
  go_enter Try.func59, Try.ntmps59
  go_upto_region 1 with fail
  rw [← HW.out]
  obtain ⟨b0, hb0⟩ : ∃ z, z = w.heap.size := ⟨_, rfl⟩
  obtain ⟨b1, hb1⟩ : ∃ z, z = b0 + 1 := ⟨_, rfl⟩
  rw [← hb0, ← hb1]
  rw [← hb0] at c0 c1 c2 c3 qz
  rw [← hb1] at qz
  have HBB : Aside0 (w.heap.size ≤ b1) := ⟨by omega⟩
  have HQ := Aside0.mk qz
  have z0 := qz.at_ (i := 0) rfl
  have z1 := qz.at_ (i := 1) rfl
  have z2 := qz.at_ (i := 2) rfl
  have z3 := qz.at_ (i := 3) rfl
  have zf := qz.free
  clear hb0 hb1 HW qz
  go_wp2_with fail
  have hF := (((HQ.out.set 0 (.int .i64 0)).set 1 (.int .i64 0)).set 2 (.int .i64 0)).set 3 (.slice none 0 0)
  have r0 := hF.at_ (i := 0) rfl
  have r1 := hF.at_ (i := 1) rfl
  have r2 := hF.at_ (i := 2) rfl
  have r3 := hF.at_ (i := 3) rfl
  refine bodyPost_ret (v := .tuple #[.agg #[.int .i64 0, .int .i64 0, .int .i64 0, .slice none 0 0], .int .i64 10]) (by simp [results, Try.results59, go_sem, r0, r1, r2, r3]) rfl ?_
  exact ⟨rfl, Below.setCell (Below.setCell (Below.setCell (Below.setCell HB.out (p := ⟨b1, 0, none⟩) HBB.out _) (p := ⟨b1, 1, none⟩) HBB.out _) (p := ⟨b1, 2, none⟩) HBB.out _) (p := ⟨b1, 3, none⟩) HBB.out _⟩
def RResPost (w : World) (xs : List Sb) (us : List Int) (E : Option Addr) (d : Nat) (e : Ending) (w' : World) : Prop :=
  Below w.heap.size w w' ∧ e = .returned (.tuple #[.agg #[.int .i64 (sumU woolS xs us), .int .i64 (sumU Sb.veg xs us), .int .i64 (sumU Sb.raw xs us), .slice E us.length d], .int .i64 0])
set_option maxHeartbeats 8000000 in
set_option maxRecDepth 100000 in
theorem rresC_any (w : World) (A : Option Addr) (n c : Nat) (xs : List Sb) (tol : Int) (E : Option Addr) (m d : Nat) (us : List Int) (hn : xs.length = n) (hm : us.length = m) (h : kQ.C w A n xs) (hu : (Kd.int .i64).C w E m us) (hok : ∀ s ∈ xs, SbOK s) (hus : ∀ u ∈ us, 0 ≤ u ∧ u < n) (h0 : 0 < m) (hl : m ≤ 8) :
    Calls Try.prog 59 #[.agg #[.int .i64 tol, .slice A n c, .int .i64 1, .slice E m d]] w (RResPost w xs us E d) := by
  obtain ⟨ad, rfl⟩ : ∃ ad, A = some ad := by
    have hx : 0 < n := by
      have := hus (us.getD 0 0) (by rw [List.getD_eq_getElem?_getD, List.getElem?_eq_getElem (by omega)]; exact List.getElem_mem _)
      omega
    obtain ⟨ad, e, _⟩ := at_Q h 0 hx
    exact ⟨ad, e⟩
  obtain ⟨au, rfl⟩ : ∃ au, E = some au := by
    obtain ⟨ad, e, _⟩ := Kd.at_int hu (0 : Int) (by omega) (by omega)
    exact ⟨ad, e⟩
  have HFW := Aside0.mk (fun i => woolS_bd (rdQ_ok hok i))
  have HFV := Aside0.mk (fun i => (show 0 ≤ Sb.veg (rdQ xs i) ∧ Sb.veg (rdQ xs i) ≤ 10000 from ⟨(rdQ_ok hok i).v1, by have := (rdQ_ok hok i).v2; have := (rdQ_ok hok i).d2; have := (rdQ_ok hok i).r2; omega⟩))
  have HFR := Aside0.mk (fun i => (show 0 ≤ Sb.raw (rdQ xs i) ∧ Sb.raw (rdQ xs i) ≤ 10000 from ⟨by have := (rdQ_ok hok i).r1; omega, (rdQ_ok hok i).r2⟩))
  have HPOST : Aside0 (∀ w', Below w.heap.size w w' → RResPost w xs us (some au) d (.returned (.tuple #[.agg #[.int .i64 (sumU woolS xs us), .int .i64 (sumU Sb.veg xs us), .int .i64 (sumU Sb.raw xs us), .slice (some au) m d], .int .i64 0])) w') := ⟨fun w' h1 => ⟨h1, by rw [hm]⟩⟩
  obtain ⟨P, hP⟩ : ∃ P, P = RResPost w xs us (some au) d := ⟨_, rfl⟩
  rw [← hP] at HPOST ⊢
  clear hP
  have q := Blk.new w [.int .i64 tol, .slice (some ad) n c, .int .i64 1, .slice (some au) m d] 92
  obtain ⟨w2, hw2⟩ : ∃ z, z = (w.alloc (.cells #[.int .i64 tol, .slice (some ad) n c, .int .i64 1, .slice (some au) m d] 92)).alloc (.cells #[.int .i64 0, .int .i64 0, .int .i64 0, .slice none 0 0] 83) := ⟨_, rfl⟩
  have HW := Aside0.mk hw2
  have q2 := q.alloc (.cells #[.int .i64 0, .int .i64 0, .int .i64 0, .slice none 0 0] 83)
  have HB : Aside0 (Below w.heap.size w w2) := ⟨by rw [hw2]; exact below_alloc (below_alloc (Below.refl _ _) _) _⟩
  have qz : Blk w2 (w.heap.size + 1) [.int .i64 0, .int .i64 0, .int .i64 0, .slice none 0 0] 83 := by
    have h := Blk.new (w.alloc (.cells #[.int .i64 tol, .slice (some ad) n c, .int .i64 1, .slice (some au) m d] 92)) [.int .i64 0, .int .i64 0, .int .i64 0, .slice none 0 0] 83
    rw [show (w.alloc (.cells #[.int .i64 tol, .slice (some ad) n c, .int .i64 1, .slice (some au) m d] 92)).heap.size = w.heap.size + 1 by simp] at h
    rw [hw2]
    exact h
  rw [← hw2] at q2
  have HC := Aside0.mk (And.intro hn (And.intro hm (And.intro hok (And.intro hus (And.intro h hu)))))
  clear q hw2 h hu hok hus hn hm
  go_enter Try.func59, Try.ntmps59
  go_upto_region 1 with fail
  rw [← HW.out]
  obtain ⟨b0, hb0⟩ : ∃ z, z = w.heap.size := ⟨_, rfl⟩
  obtain ⟨b1, hb1⟩ : ∃ z, z = b0 + 1 := ⟨_, rfl⟩
  rw [← hb0] at q2 qz ⊢
  rw [← hb1] at qz ⊢
  have HBB : Aside0 (b0 = w.heap.size ∧ b1 = b0 + 1) := ⟨hb0, hb1⟩
  have HQ := Aside0.mk (And.intro q2 qz)
  have s1 := q2.at_ (i := 1) rfl
  have s2 := q2.at_ (i := 2) rfl
  have s3 := q2.at_ (i := 3) rfl
  clear hb0 hb1 HW qz q2
  go_upto_region 4 with fail
  clear s1 s2 s3
  obtain ⟨br, hbr⟩ : ∃ z, z = w2.heap.size := ⟨_, rfl⟩
  have hx6 := below_alloc (Below.refl w2.heap.size w2) (.cells #[.int .i64 0, .int .i64 0, .int .i64 0, .slice (some au) m d] 83)
  have H6 : Aside0 (Blk (w2.alloc (.cells #[.int .i64 0, .int .i64 0, .int .i64 0, .slice (some au) m d] 83)) br [.int .i64 0, .int .i64 0, .int .i64 0, .slice (some au) m d] 83 ∧ Blk (w2.alloc (.cells #[.int .i64 0, .int .i64 0, .int .i64 0, .slice (some au) m d] 83)) b0 [.int .i64 tol, .slice (some ad) n c, .int .i64 1, .slice (some au) m d] 92 ∧ Blk (w2.alloc (.cells #[.int .i64 0, .int .i64 0, .int .i64 0, .slice (some au) m d] 83)) b1 [.int .i64 0, .int .i64 0, .int .i64 0, .slice none 0 0] 83 ∧ Below w.heap.size w (w2.alloc (.cells #[.int .i64 0, .int .i64 0, .int .i64 0, .slice (some au) m d] 83))) :=
    ⟨by rw [hbr]; exact Blk.new w2 _ 83, HQ.out.1.below hx6, HQ.out.2.below hx6, below_step HB.out hx6⟩
  have HBR : Aside0 (w.heap.size ≤ b0 ∧ b0 < b1 ∧ b1 < br) := ⟨by rw [hbr]; have := HQ.out.2.lt; have := HBB.out; omega⟩
  rw [← hbr]
  clear hx6 hbr
  generalize w2.alloc (.cells #[.int .i64 0, .int .i64 0, .int .i64 0, .slice (some au) m d] 83) = w6 at H6 ⊢
  go_wp2_with fail
  go_loopw [5, 6] (fun v _ wr => ∃ i : Nat, v = .int .i64 i ∧ i ≤ m ∧ Aside0 (Kp (fun k => k = br) w6 wr ∧ Blk wr br [.int .i64 (sumU woolS xs (us.take i)), .int .i64 (sumU Sb.veg xs (us.take i)), .int .i64 (sumU Sb.raw xs (us.take i)), .slice (some au) m d] 83)) (fun v _ _ => m - (intOf v).toNat)
  case atStart => exact ⟨0, rfl, by omega, ⟨Kp.refl _ _, H6.out.1⟩⟩
  case round =>
    obtain ⟨i, rfl, hi, HI⟩ := hrel
    obtain ⟨wo, rfl⟩ : ∃ wo : World, wo = wr := ⟨_, rfl⟩
    have HBO : Aside0 (Below w.heap.size w wo) := ⟨((Kp.of_below H6.out.2.2.2 : Kp (fun k => k = br) w w6).step HI.out.1).below_of (fun k hk => by have := HBR.out; omega)⟩
    have hb0 := H6.out.2.1.kp HI.out.1 (by have := HBR.out; omega)
    have HB0 := Aside0.mk hb0
    have s1 := hb0.at_ (i := 1) rfl
    have s3 := hb0.at_ (i := 3) rfl
    clear hb0
    by_cases hlt : i < m
    · have hlti : (i : Int) < m := by omega
      have hu : us.getD i 0 ∈ us := by rw [List.getD_eq_getElem?_getD, List.getElem?_eq_getElem (by rw [HC.out.2.1]; exact hlt)]; exact List.getElem_mem _
      have hub := HC.out.2.2.2.1 _ hu
      obtain ⟨U, hU⟩ : ∃ U : Nat, us.getD i 0 = U := ⟨(us.getD i 0).toNat, by omega⟩
      have hUn : U < n := by omega
      have gi : wo.cell? (au.add i) = some (.int .i64 U) := by
        obtain ⟨ad', e, hg⟩ := Kd.at_int (Kd.C_below HC.out.2.2.2.2.2 HBO.out) (i : Int) (by omega) hlti
        cases e
        rw [Int.toNat_natCast] at hg
        rw [← hU]
        simpa [rd] using hg
      have e1 := sumU_snoc woolS xs us (i := i) (by rw [HC.out.2.1]; exact hlt)
      have e2 := sumU_snoc Sb.veg xs us (i := i) (by rw [HC.out.2.1]; exact hlt)
      have e3 := sumU_snoc Sb.raw xs us (i := i) (by rw [HC.out.2.1]; exact hlt)
      rw [hU, Int.toNat_natCast] at e1 e2 e3
      have hln : (us.take i).length ≤ 8 := by rw [List.length_take]; omega
      have w1b := sumU_bd woolS xs HFW.out (us.take i)
      have w2b := sumU_bd Sb.veg xs HFV.out (us.take i)
      have w3b := sumU_bd Sb.raw xs HFR.out (us.take i)
      have f1b := HFW.out U
      have f2b := HFV.out U
      have f3b := HFR.out U
      have HRB0 := HI.out.2
      have HWL := Aside0.mk (fun W => rwool_any W (rdQ_ok HC.out.2.2.1 U))
      obtain ⟨ad1, ea, d0, d1, d2, d3, d4⟩ := at_Q (Kd.C_below HC.out.2.2.2.2.1 HBO.out) U hUn
      cases ea
      obtain ⟨W0, hW0⟩ : ∃ z, z = sumU woolS xs (us.take i) := ⟨_, rfl⟩
      obtain ⟨V0, hV0⟩ : ∃ z, z = sumU Sb.veg xs (us.take i) := ⟨_, rfl⟩
      obtain ⟨Z0, hZ0⟩ : ∃ z, z = sumU Sb.raw xs (us.take i) := ⟨_, rfl⟩
      obtain ⟨wl, hwl⟩ : ∃ z, z = woolS (rdQ xs U) := ⟨_, rfl⟩
      rw [← hW0] at e1 w1b HRB0
      rw [← hV0] at e2 w2b HRB0
      rw [← hZ0] at e3 w3b HRB0
      rw [← hwl] at e1 f1b HWL
      generalize rdQ xs U = Y at d0 d1 d2 d3 d4 HWL e2 e3 f2b f3b
      obtain ⟨qr, qd, qa, qg, qv⟩ := Y
      dsimp only at d0 d1 d2 d3 d4 HWL e2 e3 f2b f3b
      have HE := Aside0.mk (And.intro e1 (And.intro e2 e3))
      have HRB := Aside0.mk HRB0
      have hUi : (U : Int) < n := by omega
      obtain ⟨wa, wb⟩ := w1b
      obtain ⟨va, vb⟩ := w2b
      obtain ⟨za, zb⟩ := w3b
      obtain ⟨f11, f12⟩ := f1b
      obtain ⟨f21, f22⟩ := f2b
      obtain ⟨f31, f32⟩ := f3b
      have k1 : IntKind.i64.wrap (W0 + wl) = W0 + wl := IntWalk.i64_in _ (by omega)
      have k2 : IntKind.i64.wrap (V0 + qv) = V0 + qv := IntWalk.i64_in _ (by omega)
      have k3 : IntKind.i64.wrap (Z0 + qr) = Z0 + qr := IntWalk.i64_in _ (by omega)
      clear e1 e2 e3 hW0 hV0 hZ0 hwl hU hu hub HRB0 hln wa wb va vb za zb f11 f12 f21 f22 f31 f32
      have HS1 := Aside0.mk (fun (W : World) (hW : Below wo.heap.size wo W) => (⟨⟨hW⟩, cell_keep hW s1, cell_keep hW s3, cell_keep hW gi, cell_keep hW d0, cell_keep hW d1, cell_keep hW d2, cell_keep hW d3, cell_keep hW d4⟩ : Aside0 (Below wo.heap.size wo W) ∧ W.cell? ⟨b0, 1, none⟩ = some (.slice (some ad) n c) ∧ W.cell? ⟨b0, 3, none⟩ = some (.slice (some au) m d) ∧ W.cell? (au.add i) = some (.int .i64 U) ∧ W.cell? (ad.add (U * 5)) = some (.int .i64 qr) ∧ W.cell? ⟨(ad.add (U * 5)).block, (ad.add (U * 5)).off + 1, none⟩ = some (.int .i64 qd) ∧ W.cell? ⟨(ad.add (U * 5)).block, (ad.add (U * 5)).off + 2, none⟩ = some (.int .i64 qa) ∧ W.cell? ⟨(ad.add (U * 5)).block, (ad.add (U * 5)).off + 3, none⟩ = some (.int .i64 qg) ∧ W.cell? ⟨(ad.add (U * 5)).block, (ad.add (U * 5)).off + 4, none⟩ = some (.int .i64 qv)))
      go_upto_region 7 with fail
      clear s1 s3 gi d0 d1 d2 d3 d4
      go_cut [6] from 21 to 29 (fun a w3 => ∃ p : Nat, a = .pointer (some ⟨p, 0, none⟩) ∧ Aside0 (w3.heap[p]? = some (.cells #[.int .i64 qr, .int .i64 qd, .int .i64 qa, .int .i64 qg, .int .i64 qv] 55 (0, 0)) ∧ Below wo.heap.size wo w3))
      case first =>
        clear k1 k2 k3 HWL HE HRB HFW HFV HFR HC HPOST HI HBO HB0 H6 HBR
        go_region_held3 (fun W => Aside0 (Below wo.heap.size wo W) ∧ W.cell? ⟨b0, 1, none⟩ = some (.slice (some ad) n c) ∧ W.cell? ⟨b0, 3, none⟩ = some (.slice (some au) m d) ∧ W.cell? (au.add i) = some (.int .i64 U) ∧ W.cell? (ad.add (U * 5)) = some (.int .i64 qr) ∧ W.cell? ⟨(ad.add (U * 5)).block, (ad.add (U * 5)).off + 1, none⟩ = some (.int .i64 qd) ∧ W.cell? ⟨(ad.add (U * 5)).block, (ad.add (U * 5)).off + 2, none⟩ = some (.int .i64 qa) ∧ W.cell? ⟨(ad.add (U * 5)).block, (ad.add (U * 5)).off + 3, none⟩ = some (.int .i64 qg) ∧ W.cell? ⟨(ad.add (U * 5)).block, (ad.add (U * 5)).off + 4, none⟩ = some (.int .i64 qv))
          ((refine HS1.out _ ?_; repeat (with_reducible (first | exact Below.refl _ _ | refine below_drew ?_ | refine below_alloc ?_ _ | refine Below.setCell ?_ ?_ _ | exact Nat.le_refl _))))
          (fail)
        all_goals go_wp2_with fail
        all_goals go_meet
        all_goals (case rel => exact ⟨_, rfl, ⟨Blk.new wo [.int .i64 qr, .int .i64 qd, .int .i64 qa, .int .i64 qg, .int .i64 qv] 55, below_drew (below_alloc (Below.refl _ _) _)⟩⟩)
      case rest =>
      obtain ⟨p, rfl, ⟨hp, hbw⟩⟩ := hcut
      have HP := Aside0.mk (And.intro (blk5 hp) (And.intro hbw (HRB.out.below hbw)))
      have HPN : Aside0 (¬ p = br) := ⟨HP.out.1.ne_of_type HP.out.2.2 (by decide)⟩
      clear hp hbw
      have HS8 := Aside0.mk (fun (W : World) (hW : Below wc.heap.size wc W) => (⟨(HP.out.2.2.below hW).at_ (i := 0) rfl, (HP.out.1.below hW).at_ (i := 0) rfl, (HP.out.1.below hW).at_ (i := 1) rfl, (HP.out.1.below hW).at_ (i := 2) rfl, (HP.out.1.below hW).at_ (i := 3) rfl, (HP.out.1.below hW).at_ (i := 4) rfl⟩ : W.cell? ⟨br, 0, none⟩ = some (.int .i64 W0) ∧ W.cell? ⟨p, 0, none⟩ = some (.int .i64 qr) ∧ W.cell? ⟨p, 1, none⟩ = some (.int .i64 qd) ∧ W.cell? ⟨p, 2, none⟩ = some (.int .i64 qa) ∧ W.cell? ⟨p, 3, none⟩ = some (.int .i64 qg) ∧ W.cell? ⟨p, 4, none⟩ = some (.int .i64 qv)))
      go_upto_region 8 with fail
      refine start_ (n := 7) (S := (fun W => W.cell? ⟨br, 0, none⟩ = some (.int .i64 W0) ∧ W.cell? ⟨p, 0, none⟩ = some (.int .i64 qr) ∧ W.cell? ⟨p, 1, none⟩ = some (.int .i64 qd) ∧ W.cell? ⟨p, 2, none⟩ = some (.int .i64 qa) ∧ W.cell? ⟨p, 3, none⟩ = some (.int .i64 qg) ∧ W.cell? ⟨p, 4, none⟩ = some (.int .i64 qv))) (ds := [6]) #[false, false, false, false, false, false, false] (by kernel_rfl) rfl rfl (HS8.out _ (below_drew (Below.refl _ _))) (fun hHeld => ?_)
      refine pure_ (i := 0) (N := some 30) (v := ?_) (a' := ?_) #[true, false, false, false, false, false, false] rfl rfl (by kernel_rfl) (fun _ _ _ h => h) (Or.inl ⟨by rfl, ?_⟩) ?_ ?_
      rotate_left
      · intro w'
        go_simp
        with_reducible rfl
      rotate_left
      · simp only [Act.put, List.setIfInBounds_toArray, List.set_cons_zero, List.set_cons_succ, i64_w, i32_w]
        rfl
      refine take_ (i := 1) (N := some 31) (v := ?_) (a' := ?_) #[true, true, false, false, false, false, false] rfl rfl (by kernel_rfl) (fun _ _ _ h => h) (Or.inl ⟨by rfl, ?_⟩) hHeld ?_ ?_
      rotate_left
      · rintro w' ⟨s0, s1, s2, s3, s4, s5⟩
        go_simp
        with_reducible rfl
      rotate_left
      · simp only [Act.put, List.setIfInBounds_toArray, List.set_cons_zero, List.set_cons_succ, i64_w, i32_w]
        rfl
      refine take_ (i := 2) (N := some 32) (v := ?_) (a' := ?_) #[true, true, true, false, false, false, false] rfl rfl (by kernel_rfl) (fun _ _ _ h => h) (Or.inl ⟨by rfl, ?_⟩) hHeld ?_ ?_
      rotate_left
      · rintro w' ⟨s0, s1, s2, s3, s4, s5⟩
        go_simp
        with_reducible rfl
      rotate_left
      · simp only [Act.put, List.setIfInBounds_toArray, List.set_cons_zero, List.set_cons_succ, i64_w, i32_w]
        rfl
      refine one_ (i := 3) (N := some 33) #[true, true, true, true, false, false, false] rfl rfl (by kernel_rfl) (by decide) (fun K hK => ?_)
      refine goes_ Try.func75 (by kernel_rfl) rfl #[.agg #[.int .i64 qr, .int .i64 qd, .int .i64 qa, .int .i64 qg, .int .i64 qv]] (by rfl) rfl rfl (by (try simp only [List.map_toArray, List.map_cons, List.map_nil]); first | done | rfl) ?_
      with_reducible refine (HWL.out _).mono ?_
      rintro e8 w8 ⟨rfl, hb8⟩
      refine ⟨_, rfl, ?_⟩
      have HB8 := Aside0.mk (show Below wc.heap.size wc w8 from below_step (below_drew (Below.refl _ _)) hb8)
      clear hb8
      refine hK.out _ _ (HS8.out _ HB8.out) (fun hHeld => ?_)
      clear hK K
      refine norm_ (a' := ?_) ?_ ?_
      rotate_left
      · show Act.put _ (some 33) _ = _
        simp only [Act.put, List.setIfInBounds_toArray, List.set_cons_zero, List.set_cons_succ, i64_w, i32_w]
        rfl
      refine pure_ (i := 4) (N := some 34) (v := ?_) (a' := ?_) #[true, true, true, true, true, false, false] rfl rfl (by kernel_rfl) (fun _ _ _ h => h) (Or.inl ⟨by rfl, ?_⟩) ?_ ?_
      rotate_left
      · intro w'
        go_simp
        with_reducible rfl
      rotate_left
      · simp only [Act.put, List.setIfInBounds_toArray, List.set_cons_zero, List.set_cons_succ, i64_w, i32_w]
        rfl
      refine pure_ (i := 5) (N := some 35) (v := ?_) (a' := ?_) #[true, true, true, true, true, true, false] rfl rfl (by kernel_rfl) (fun _ _ _ h => h) (Or.inl ⟨by rfl, ?_⟩) ?_ ?_
      rotate_left
      · intro w'
        go_simp
        with_reducible rfl
      rotate_left
      · simp only [Act.put, List.setIfInBounds_toArray, List.set_cons_zero, List.set_cons_succ, i64_w, i32_w]
        rfl
      refine last_ (i := 6) (N := none) #[true, true, true, true, true, true, true] rfl rfl (by kernel_rfl) (by decide) (fun K hK => ?_)
      have hx8 := HP.out.2.2.below HB8.out
      have cb4 := hx8.at_ (i := 0) rfl
      have fb4 := hx8.free 0
      clear hx8
      refine skip_ (w1 := ?_) (by rfl) rfl ?_ ?_
      rotate_left
      · go_simp
        rfl
      refine hK.out _ _ ?_
      clear hK K
      refine done_ (by kernel_rfl) ?_
      go_upto_region 9 with fail
      have HR9 := Aside0.mk ((HP.out.2.2.below HB8.out).set 0 (.int .i64 (W0 + wl)))
      have HK9 := Aside0.mk ((Kp.of_below (below_step HP.out.2.1 HB8.out) : Kp (fun k => k = br) wo w8).setCell (p := ⟨br, 0, none⟩) (fun _ => rfl) (.int .i64 (W0 + wl)))
      have HP9 := Aside0.mk ((HP.out.1.below HB8.out).kp ((Kp.refl (fun k => k = br) w8).setCell (p := ⟨br, 0, none⟩) (fun _ => rfl) (.int .i64 (W0 + wl))) HPN.out)
      generalize w8.setCell ⟨br, 0, none⟩ (.int .i64 (W0 + wl)) = w9 at HR9 HK9 HP9 ⊢
      clear hHeld cb4 fb4
      have cb1 := HR9.out.at_ (i := 1) rfl
      have fb1 := HR9.out.free
      have cp4 := HP9.out.at_ (i := 4) rfl
      go_upto_region 10 with fail
      have HR10 := Aside0.mk (HR9.out.set 1 (.int .i64 (V0 + qv)))
      have HK10 := Aside0.mk (HK9.out.setCell (p := ⟨br, 1, none⟩) (fun _ => rfl) (.int .i64 (V0 + qv)))
      have HP10 := Aside0.mk (HP9.out.kp ((Kp.refl (fun k => k = br) w9).setCell (p := ⟨br, 1, none⟩) (fun _ => rfl) (.int .i64 (V0 + qv))) HPN.out)
      generalize w9.setCell ⟨br, 1, none⟩ (.int .i64 (V0 + qv)) = w10 at HR10 HK10 HP10 ⊢
      clear cb1 fb1 cp4
      have cb2 := HR10.out.at_ (i := 2) rfl
      have fb2 := HR10.out.free
      have cp0 := HP10.out.at_ (i := 0) rfl
      have HR11 := Aside0.mk (HR10.out.set 2 (.int .i64 (Z0 + qr)))
      have HK11 := Aside0.mk (HK10.out.setCell (p := ⟨br, 2, none⟩) (fun _ => rfl) (.int .i64 (Z0 + qr)))
      go_wp2_with fail
      go_roundw
      case rel => exact ⟨i + 1, by go_num, by omega, ⟨HI.out.1.step HK11.out, by rw [HE.out.1, HE.out.2.1, HE.out.2.2]; exact HR11.out⟩⟩
      case measure => simp [intOf]; omega
    · have hlti : ¬ (i : Int) < m := by omega
      have hfin := HI.out.2
      rw [List.take_of_length_le (by rw [HC.out.2.1]; omega)] at hfin
      have a0 := hfin.at_ (i := 0) rfl
      have a1 := hfin.at_ (i := 1) rfl
      have a2 := hfin.at_ (i := 2) rfl
      have a3 := hfin.at_ (i := 3) rfl
      have hb1 := H6.out.2.2.1.kp HI.out.1 (by have := HBR.out; omega)
      have z0 := hb1.at_ (i := 0) rfl
      have z1 := hb1.at_ (i := 1) rfl
      have z2 := hb1.at_ (i := 2) rfl
      have z3 := hb1.at_ (i := 3) rfl
      have zf := hb1.free
      have HLE : Aside0 (w.heap.size ≤ b1) := ⟨by have := HBR.out; omega⟩
      obtain ⟨sw, hsw⟩ : ∃ z, z = sumU woolS xs us := ⟨_, rfl⟩
      obtain ⟨sv, hsv⟩ : ∃ z, z = sumU Sb.veg xs us := ⟨_, rfl⟩
      obtain ⟨sr, hsr⟩ : ∃ z, z = sumU Sb.raw xs us := ⟨_, rfl⟩
      rw [← hsw, ← hsv, ← hsr] at HPOST
      rw [← hsw] at a0
      rw [← hsv] at a1
      rw [← hsr] at a2
      have HB2 := Aside0.mk hb1
      clear hsw hsv hsr hfin hb1
      go_wp2_with fail
      have hF := (((HB2.out.set 0 (.int .i64 sw)).set 1 (.int .i64 sv)).set 2 (.int .i64 sr)).set 3 (.slice (some au) m d)
      have r0 := hF.at_ (i := 0) rfl
      have r1 := hF.at_ (i := 1) rfl
      have r2 := hF.at_ (i := 2) rfl
      have r3 := hF.at_ (i := 3) rfl
      refine bodyPost_ret (v := .tuple #[.agg #[.int .i64 sw, .int .i64 sv, .int .i64 sr, .slice (some au) m d], .int .i64 0]) (by simp [results, Try.results59, go_sem, r0, r1, r2, r3]) rfl ?_
      exact HPOST.out _ (Below.setCell (Below.setCell (Below.setCell (Below.setCell HBO.out (p := ⟨b1, 0, none⟩) HLE.out _) (p := ⟨b1, 1, none⟩) HLE.out _) (p := ⟨b1, 2, none⟩) HLE.out _) (p := ⟨b1, 3, none⟩) HLE.out _)
end Go.Proofs.Ythkfahkkcjagdaa

/- What the reference's checks and bound answer; the comparison and the copy of lists. -/
import Derived.Test.YtnoocdobldchoaaPkBound
namespace Go.Proofs.Ytnoocdobldchoaa
open Go.RowKit Go.Proofs.YtnoocdobldchoaaW.PrintWords Go.Proofs.YtnoocdobldchoaaW.PrintMore Go.Proofs.YtnoocdobldchoaaW.PrintLast

set_option maxHeartbeats 1000000 in
theorem boxes_any (w : World) (A : Option Addr) (c : Nat) (ms : List Int) (most each : Int) (h : (Kd.int .i64).C w A ms.length ms) :
    Calls Try.prog 43 #[.slice A ms.length c, .int .i64 most, .int .i64 each] w fun e w' => e = .returned (.int .i64 (thingsE ms most each)) ∧ w = w' := by
  have hl := Kd.C_max h
  have HR := Aside0.mk h
  clear h
  obtain ⟨e0, he0⟩ : ∃ z, z = thingsE ms most each := ⟨_, rfl⟩
  rw [← he0]
  by_cases hlen : 12 < ms.length
  · unfold thingsE at he0
    rw [if_pos hlen] at he0
    have hlen' : (12 : Int) < ms.length := by omega
    subst he0
    go_enter Try.func43, Try.ntmps43
    go_wp2_with fail
    go_ret
    exact ⟨rfl, rfl⟩
  by_cases hp : most < 1 ∨ 1073741824 < most ∨ each < 1 ∨ 12 < each
  · unfold thingsE at he0
    rw [if_neg hlen, if_pos hp] at he0
    subst he0
    go_enter Try.func43, Try.ntmps43
    go_wp2_with fail
    all_goals first | (exfalso; omega) | (go_ret; exact ⟨rfl, rfl⟩)
  have HE := Aside0.mk he0; clear he0
  go_enter Try.func43, Try.ntmps43
  go_wp2_with fail
  all_goals try (exfalso; omega)
  go_loop [7] (fun v => ∃ i : Int, v = .int .i64 i ∧ 0 ≤ i ∧ i ≤ ms.length ∧ Aside0 ((ms.drop i.toNat).any (fun m => decide (m < 1) || decide (1073741824 < m)) = ms.any (fun m => decide (m < 1) || decide (1073741824 < m)))) (fun v => ms.length - (intOf v).toNat)
  case atStart => exact ⟨0, rfl, by omega, by omega, ⟨rfl⟩⟩
  case round =>
    obtain ⟨i, rfl, h0, h1, he⟩ := hrel
    by_cases hlt : i < ms.length
    · obtain ⟨ad, e1, g3⟩ := Kd.at_int HR.out i h0 hlt
      subst e1
      by_cases hbad : rd ms i < 1 ∨ 1073741824 < rd ms i
      · have hE : e0 = 2 := by
          have h2 := he.out
          rw [drop_rd ms i h0 hlt, List.any_cons] at h2
          rw [HE.out]; unfold thingsE
          rw [if_neg hlen, if_neg hp, ← h2, if_pos]
          simp only [Bool.or_eq_true, decide_eq_true_eq]
          exact .inl hbad
        subst hE
        go_wp2_with fail
        all_goals first | (exfalso; omega) | (go_ret; exact ⟨rfl, rfl⟩)
      · go_wp2_with fail
        all_goals try (exfalso; omega)
        go_round
        case rel =>
          refine ⟨i + 1, by go_num, by omega, by omega, ⟨?_⟩⟩
          rw [← he.out, drop_rd ms i h0 hlt, List.any_cons]
          have e1 : decide (rd ms i < 1) = false := by simp; omega
          have e2 : decide (1073741824 < rd ms i) = false := by simp; omega
          rw [e1, e2]; rfl
        case measure => simp [intOf]; omega
    · have hE : e0 = if ms.any (fun m => decide (most < m)) then 13 else 0 := by
        have h2 := he.out
        rw [show i.toNat = ms.length by omega, List.drop_length] at h2
        rw [HE.out]; unfold thingsE
        rw [if_neg hlen, if_neg hp, ← h2, if_neg (by simp)]
      clear HE he
      have HE := Aside0.mk hE; clear hE
      go_wp2_with fail
      go_loop [8] (fun v => ∃ i : Int, v = .int .i64 i ∧ 0 ≤ i ∧ i ≤ ms.length ∧ Aside0 ((ms.drop i.toNat).any (fun m => decide (most < m)) = ms.any (fun m => decide (most < m)))) (fun v => ms.length - (intOf v).toNat)
      case atStart => exact ⟨0, rfl, by omega, by omega, ⟨rfl⟩⟩
      case round =>
        obtain ⟨j, rfl, hj0, hj1, he⟩ := hrel
        by_cases hjl : j < ms.length
        · obtain ⟨ad, e1, g3⟩ := Kd.at_int HR.out j hj0 hjl
          subst e1
          by_cases hbad : most < rd ms j
          · have hE : e0 = 13 := by
              have h2 := he.out
              rw [drop_rd ms j hj0 hjl, List.any_cons] at h2
              rw [HE.out, ← h2, if_pos]
              simp [hbad]
            subst hE
            go_wp2_with fail
            go_ret; exact ⟨rfl, rfl⟩
          · go_wp2_with fail
            go_round
            case rel =>
              refine ⟨j + 1, by go_num, by omega, by omega, ⟨?_⟩⟩
              rw [← he.out, drop_rd ms j hj0 hjl, List.any_cons]
              have e1 : decide (most < rd ms j) = false := by simp; omega
              rw [e1]; rfl
            case measure => simp [intOf]; omega
        · have hE : e0 = 0 := by
            have h2 := he.out
            rw [show j.toNat = ms.length by omega, List.drop_length] at h2
            rw [HE.out, ← h2]; rfl
          subst hE
          go_wp2_with fail
          go_ret; exact ⟨rfl, rfl⟩

/-- The reference's formula at a threshold. -/
def rboundF (ms : List Int) (most a : Int) : Int := if a < 0 ∨ most / 2 < a then 0 else bval ms most a

theorem bval_bd (ms : List Int) (most a : Int) (hms : MOK ms) (hm0 : 1 ≤ most) (hm1 : most ≤ 1073741824) : 0 ≤ bval ms most a ∧ bval ms most a ≤ 1000000000100 := by
  have key : ∀ (l : List Int) (i : Int) (s : Int × Int × Int × Int), BB i s → (∀ j, j < l.length → 1 ≤ l.getD j 0 ∧ l.getD j 0 ≤ 1073741824) → BB (i + l.length) (l.foldl (bstep most a) s) := by
    intro l
    induction l with
    | nil => intro i s h _; simpa using h
    | cons m l ih =>
      intro i s h hl
      have h0 := hl 0 (by simp)
      have := ih (i + 1) _ (h.step most a m (by simp at h0; omega) (by simp at h0; omega)) (fun j hj => by have := hl (j + 1) (by simpa using hj); simpa using this)
      rw [List.foldl_cons, List.length_cons]
      rwa [show i + ((l.length + 1 : Nat) : Int) = i + 1 + l.length by omega]
  have h := key ms 0 (0, 0, 0, 0) (by unfold BB; simp) hms.2
  unfold bval
  generalize ms.foldl (bstep most a) (0, 0, 0, 0) = s at h
  obtain ⟨s1, s2, s3, s4⟩ := s
  unfold BB at h
  obtain ⟨⟨k1, k2⟩, ⟨k3, k4⟩, ⟨k5, k6⟩, k7, k8⟩ := h
  dsimp only at k1 k2 k3 k4 k5 k6 k7 k8
  have hl := hms.1
  unfold bform brest
  dsimp only
  have hm2 := mul_bd k3 k4 (show 0 ≤ most by omega) hm1
  generalize s2 * most = p at *
  split
  · have h1 : 0 ≤ (s4 - (p - s3) + most - 1) / most := Int.ediv_nonneg (by omega) (by omega)
    have h2 : (s4 - (p - s3) + most - 1) / most ≤ 1000000000000 := by
      refine Int.ediv_le_of_le_mul (by omega) ?_
      have := Int.mul_le_mul_of_nonneg_left hm0 (show (0 : Int) ≤ 1000000000000 by omega)
      omega
    omega
  · omega
end Go.Proofs.Ytnoocdobldchoaa

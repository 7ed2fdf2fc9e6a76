/- What the reference's bound answers, at a threshold and over all of them; the comparison of lists. -/
import Derived.Test.YtnoocdobldchoaaPkRef
namespace Go.Proofs.Ytnoocdobldchoaa
open Go.RowKit Go.Proofs.YtnoocdobldchoaaW.PrintWords Go.Proofs.YtnoocdobldchoaaW.PrintMore Go.Proofs.YtnoocdobldchoaaW.PrintLast

set_option maxHeartbeats 4000000 in
theorem rbound_any (w : World) (A : Option Addr) (c : Nat) (ms : List Int) (most a : Int) (h : (Kd.int .i64).C w A ms.length ms) (hms : MOK ms) (hm0 : 1 ≤ most) (hm1 : most ≤ 1073741824) (ha0 : -1099511627776 ≤ a) (ha1 : a ≤ 1099511627776) :
    Calls Try.prog 45 #[.slice A ms.length c, .int .i64 most, .int .i64 a] w fun e w' => e = .returned (.int .i64 (rboundF ms most a)) ∧ w = w' := by
  have HRM := Aside0.mk h; clear h
  have hml := hms.1
  have HMS := Aside0.mk hms; clear hms
  obtain ⟨e0, he0⟩ : ∃ z, z = rboundF ms most a := ⟨_, rfl⟩
  rw [← he0]
  by_cases hneg : a < 0
  · unfold rboundF at he0
    rw [if_pos (.inl hneg)] at he0
    subst he0
    go_enter Try.func45, Try.ntmps45
    go_wp2_with fail
    go_ret
    exact ⟨rfl, rfl⟩
  by_cases hbig : most / 2 < a
  · unfold rboundF at he0
    rw [if_pos (.inr hbig)] at he0
    subst he0
    go_enter Try.func45, Try.ntmps45
    go_wp2_with fail
    all_goals try (exfalso; omega)
    go_ret
    exact ⟨rfl, rfl⟩
  have hv : e0 = bval ms most a := by rw [he0]; unfold rboundF; rw [if_neg (by omega)]
  clear he0
  have HE := Aside0.mk hv; clear hv
  go_enter Try.func45, Try.ntmps45
  go_wp2_with fail
  all_goals try (exfalso; omega)
  go_loop [7, 8, 9, 10, 11] (fun v8 v9 v10 v11 v30 => ∃ (s1 s2 s3 s4 j : Int), v8 = .int .i64 s1 ∧ v9 = .int .i64 s2 ∧ v10 = .int .i64 s3 ∧ v11 = .int .i64 s4 ∧ v30 = .int .i64 j ∧ 0 ≤ j ∧ j ≤ ms.length ∧ BB j (s1, s2, s3, s4) ∧ Aside0 ((ms.drop j.toNat).foldl (bstep most a) (s1, s2, s3, s4) = ms.foldl (bstep most a) (0, 0, 0, 0))) (fun _ _ _ _ v => ms.length - (intOf v).toNat)
  case atStart => exact ⟨0, 0, 0, 0, 0, rfl, rfl, rfl, rfl, rfl, by omega, by omega, by unfold BB; simp, ⟨rfl⟩⟩
  case round =>
    obtain ⟨s1, s2, s3, s4, j, rfl, rfl, rfl, rfl, rfl, hj0, hj1, hbb, hf⟩ := hrel
    have hbb' := hbb
    unfold BB at hbb'
    obtain ⟨⟨k1, k2⟩, ⟨k3, k4⟩, ⟨k5, k6⟩, k7, k8⟩ := hbb'
    dsimp only at k1 k2 k3 k4 k5 k6 k7 k8
    have HBB := Aside0.mk hbb; clear hbb
    by_cases hjl : j < ms.length
    · obtain ⟨ad2, e1, g4⟩ := Kd.at_int HRM.out j hj0 hjl
      subst e1
      have hm := HMS.out.at_ j hj0 hjl
      have hf2 := hf.out
      rw [drop_rd ms j hj0 hjl, List.foldl_cons] at hf2
      obtain ⟨m, hmm⟩ : ∃ z, z = rd ms j := ⟨_, rfl⟩
      rw [← hmm] at g4 hm hf2
      clear hmm hf
      have hf := Aside0.mk hf2; clear hf2
      have hst := HBB.out.step most a m (by omega) (by omega)
      by_cases d1 : most - a < m
      · have e1 : bstep most a (s1, s2, s3, s4) m = (s1 + 1, s2, s3, s4) := by unfold bstep; rw [if_pos d1]
        rw [e1] at hst
        have E := Aside0.mk e1; clear e1
        have HS := Aside0.mk hst; clear hst
        go_wp2_with fail
        go_round
        case rel => exact ⟨s1 + 1, s2, s3, s4, j + 1, by go_num, by go_num, rfl, rfl, by go_num, by omega, by omega, HS.out, ⟨by have := hf.out; rwa [E.out] at this⟩⟩
        case measure => simp [intOf]; omega
      · by_cases d2 : most < 2 * m
        · have e1 : bstep most a (s1, s2, s3, s4) m = (s1, s2 + 1, s3 + m, s4) := by unfold bstep; rw [if_neg d1, if_pos d2]
          rw [e1] at hst
          have E := Aside0.mk e1; clear e1
          have HS := Aside0.mk hst; clear hst
          go_wp2_with fail
          go_round
          case rel => exact ⟨s1, s2 + 1, s3 + m, s4, j + 1, by go_num, by go_num, by go_num, by go_num, by go_num, by omega, by omega, HS.out, ⟨by have := hf.out; rwa [E.out] at this⟩⟩
          case measure => simp [intOf]; omega
        · by_cases d3 : a ≤ m
          · have e1 : bstep most a (s1, s2, s3, s4) m = (s1, s2, s3, s4 + m) := by unfold bstep; rw [if_neg d1, if_neg d2, if_pos d3]
            rw [e1] at hst
            have E := Aside0.mk e1; clear e1
            have HS := Aside0.mk hst; clear hst
            go_wp2_with fail
            go_round
            case rel => exact ⟨s1, s2, s3, s4 + m, j + 1, by go_num, by go_num, by go_num, by go_num, by go_num, by omega, by omega, HS.out, ⟨by have := hf.out; rwa [E.out] at this⟩⟩
            case measure => simp [intOf]; omega
          · have e1 : bstep most a (s1, s2, s3, s4) m = (s1, s2, s3, s4) := by unfold bstep; rw [if_neg d1, if_neg d2, if_neg d3]
            rw [e1] at hst
            have E := Aside0.mk e1; clear e1
            have HS := Aside0.mk hst; clear hst
            go_wp2_with fail
            go_round
            case rel => exact ⟨s1, s2, s3, s4, j + 1, by go_num, by go_num, by go_num, by go_num, by go_num, by omega, by omega, HS.out, ⟨by have := hf.out; rwa [E.out] at this⟩⟩
            case measure => simp [intOf]; omega
    · have hm2 := mul_bd k3 k4 (show 0 ≤ most by omega) hm1
      have hf2 := hf.out
      rw [show j.toNat = ms.length by omega, List.drop_length] at hf2
      obtain ⟨p, hp⟩ : ∃ z, z = s2 * most := ⟨_, rfl⟩
      rw [← hp] at hm2
      have hp' : s2 * most = p := hp.symm
      clear hp
      have hbv : e0 = if 0 < s4 - (p - s3) then s1 + s2 + ((s4 - (p - s3)) + most - 1) / most else s1 + s2 := by
        rw [HE.out]; unfold bval; rw [← hf2]; show bform most (s1, s2, s3, s4) = _; unfold bform brest; dsimp only; rw [hp']
      clear hf hf2
      have HV := Aside0.mk hbv; clear hbv
      by_cases hpos : 0 < s4 - (p - s3)
      · have hq0 : 0 ≤ (s4 - (p - s3) + most - 1) / most := Int.ediv_nonneg (by omega) (by omega)
        have hq1 : (s4 - (p - s3) + most - 1) / most ≤ 1000000000000 := by
          refine Int.ediv_le_of_le_mul (by omega) ?_
          have := Int.mul_le_mul_of_nonneg_left hm0 (show (0 : Int) ≤ 1000000000000 by omega)
          omega
        go_wp2_with fail
        go_ret
        exact ⟨ret_int (by rw [HV.out, if_pos hpos]), rfl⟩
      · go_wp2_with fail
        go_ret
        exact ⟨ret_int (by rw [HV.out, if_neg (by omega)]), rfl⟩

theorem bdN (w : World) (n : Nat) : Below w.heap.size w (w.drewN n) := ⟨rfl, rfl, rfl, Nat.le_refl _, fun _ _ => rfl⟩
/-- The comparison of two lists. -/
theorem same_any (w : World) (A B : Option Addr) (c d : Nat) (xs ys : List Int) (h : (Kd.int .i64).C w A xs.length xs) (k : (Kd.int .i64).C w B ys.length ys) :
    Calls Try.prog 19 #[.slice A xs.length c, .slice B ys.length d] w fun e w' => e = .returned (.bool (decide (xs = ys))) ∧ Below w.heap.size w w' := by
  have hl := Kd.C_max h
  have hl2 := Kd.C_max k
  have HX := Aside0.mk h; clear h
  have HY := Aside0.mk k; clear k
  by_cases hlen : xs.length = ys.length
  · have hlen' : ((xs.length : Int) != (ys.length : Int)) = false := by simp [hlen]
    have hle : (xs.length : Int) ≤ ys.length := by omega
    have HL := Aside0.mk hlen; clear hlen
    go_enter Try.func19, Try.ntmps19
    go_wp2_with fail
    go_loopw [5] (fun v wr => ∃ i : Int, v = .int .i64 i ∧ 0 ≤ i ∧ i ≤ xs.length ∧ (∃ n, wr = w.drewN n) ∧ Aside0 (xs.take i.toNat = ys.take i.toNat)) (fun v _ => xs.length - (intOf v).toNat)
    case atStart => exact ⟨0, rfl, by omega, by omega, ⟨0, rfl⟩, ⟨rfl⟩⟩
    case round =>
      obtain ⟨i, rfl, h0, h1, ⟨n, rfl⟩, he⟩ := hrel
      by_cases hlt : i < xs.length
      · obtain ⟨ad, e1, g1⟩ := Kd.at_int HX.out i h0 hlt
        obtain ⟨ad2, e2, g2⟩ := Kd.at_int HY.out i h0 (by omega)
        subst e1; subst e2
        have hlt2 : i < ys.length := by omega
        have tx : xs.take (i + 1).toNat = xs.take i.toNat ++ [rd xs i] := by
          rw [show (i + 1).toNat = i.toNat + 1 by omega, List.take_succ_eq_append_getElem (by omega)]
          simp [rd, List.getD_eq_getElem?_getD, List.getElem?_eq_getElem (show i.toNat < xs.length by omega)]
        have ty : ys.take (i + 1).toNat = ys.take i.toNat ++ [rd ys i] := by
          rw [show (i + 1).toNat = i.toNat + 1 by omega, List.take_succ_eq_append_getElem (by omega)]
          simp [rd, List.getD_eq_getElem?_getD, List.getElem?_eq_getElem (show i.toNat < ys.length by omega)]
        have TX := Aside0.mk tx; clear tx
        have TY := Aside0.mk ty; clear ty
        obtain ⟨x, hx⟩ : ∃ z, z = rd xs i := ⟨_, rfl⟩
        obtain ⟨y, hy⟩ : ∃ z, z = rd ys i := ⟨_, rfl⟩
        rw [← hx] at g1; rw [← hy] at g2
        have EX := Aside0.mk hx; clear hx
        have EY := Aside0.mk hy; clear hy
        by_cases hxy : x = y
        · have hb : (x != y) = false := by simp [hxy]
          have HXY := Aside0.mk hxy; clear hxy
          go_wp2_with fail
          go_quiet (fail)
          go_wp2_with fail
          go_roundw
          case rel => exact ⟨i + 1, by go_num, by omega, by omega, ⟨_, rfl⟩, ⟨by rw [TX.out, TY.out, he.out, ← EX.out, ← EY.out, HXY.out]⟩⟩
          case measure => simp [intOf]; omega
        · have hb : (x != y) = true := by simp [hxy]
          go_wp2_with fail
          go_quiet (fail)
          go_wp2_with fail
          go_ret
          refine ⟨ret_bool ?_, ⟨rfl, rfl, rfl, Nat.le_refl _, fun _ _ => rfl⟩⟩
          symm
          rw [decide_eq_false_iff_not]
          intro heq
          apply hxy
          rw [EX.out, EY.out, heq]
      · go_wp2_with fail
        go_ret
        refine ⟨ret_bool ?_, bdN _ _⟩
        have h2 := he.out
        rw [show i.toNat = xs.length by omega, List.take_length, HL.out, List.take_length] at h2
        simp [h2]
  · have hlen' : ((xs.length : Int) != (ys.length : Int)) = true := by simp; omega
    go_enter Try.func19, Try.ntmps19
    go_wp2_with fail
    go_ret
    exact ⟨ret_bool (by symm; rw [decide_eq_false_iff_not]; intro h; exact hlen (by rw [h])), Below.refl _ _⟩

/-- The four thresholds beside one mass. -/
def rstep (ms : List Int) (most : Int) (best m : Int) : Int :=
  max (max (max (max best (rboundF ms most m)) (rboundF ms most (most - m))) (rboundF ms most (m + 1))) (rboundF ms most (most - m + 1))
def rBoundF (ms : List Int) (most : Int) : Int := ms.foldl (rstep ms most) (rboundF ms most 0)

theorem rboundF_bd (ms : List Int) (most a : Int) (hms : MOK ms) (hm0 : 1 ≤ most) (hm1 : most ≤ 1073741824) : 0 ≤ rboundF ms most a ∧ rboundF ms most a ≤ 1000000000100 := by
  unfold rboundF
  split
  · omega
  · exact bval_bd ms most a hms hm0 hm1

/-- What a check lets in. -/
theorem MOK.of_E {ms : List Int} {most each : Int} (h : thingsE ms most each = 0) : MOK ms ∧ (1 ≤ most ∧ most ≤ 1073741824) ∧ (1 ≤ each ∧ each ≤ 12) ∧ ∀ i, i < ms.length → ms.getD i 0 ≤ most := by
  unfold thingsE at h
  by_cases h1 : 12 < ms.length
  · rw [if_pos h1] at h; omega
  · rw [if_neg h1] at h
    by_cases h2 : most < 1 ∨ 1073741824 < most ∨ each < 1 ∨ 12 < each
    · rw [if_pos h2] at h; omega
    · rw [if_neg h2] at h
      by_cases h3 : ms.any (fun m => decide (m < 1) || decide (1073741824 < m)) = true
      · rw [if_pos h3] at h; omega
      · rw [if_neg h3] at h
        by_cases h4 : ms.any (fun m => decide (most < m)) = true
        · rw [if_pos h4] at h; omega
        · refine ⟨⟨by omega, fun i hi => ?_⟩, by omega, by omega, fun i hi => ?_⟩
          · rw [List.getD_eq_getElem?_getD, List.getElem?_eq_getElem hi]
            simp only [Bool.not_eq_true, List.any_eq_false, Bool.or_eq_true, decide_eq_true_eq, not_or] at h3
            have := h3 ms[i] (List.getElem_mem hi)
            simp; omega
          · rw [List.getD_eq_getElem?_getD, List.getElem?_eq_getElem hi]
            simp only [Bool.not_eq_true, List.any_eq_false, decide_eq_true_eq] at h4
            have := h4 ms[i] (List.getElem_mem hi)
            simp; omega

set_option maxHeartbeats 4000000 in
theorem rBound_any (w : World) (A : Option Addr) (c : Nat) (ms : List Int) (most : Int) (h : (Kd.int .i64).C w A ms.length ms) :
    Calls Try.prog 21 #[.slice A ms.length c, .int .i64 most] w fun e w' => e = .returned (.tuple #[.int .i64 (if thingsE ms most 1 = 0 then rBoundF ms most else 0), .int .i64 (thingsE ms most 1)]) ∧ w = w' := by
  have hbx := Aside0.mk (boxes_any w A c ms most 1 h)
  have HRM := Aside0.mk h; clear h
  obtain ⟨e0, he0⟩ : ∃ z, z = thingsE ms most 1 := ⟨_, rfl⟩
  rw [← he0] at hbx ⊢
  by_cases hz : e0 = 0
  · rw [if_pos hz]
    obtain ⟨hms, ⟨hm0, hm1⟩, _, hle⟩ := MOK.of_E (he0.symm.trans hz)
    clear he0
    subst hz
    have hml := hms.1
    have HMS := Aside0.mk hms; clear hms
    have HLE := Aside0.mk hle; clear hle
    have hrb : ∀ a, -1099511627776 ≤ a → a ≤ 1099511627776 → Calls Try.prog 45 #[.slice A ms.length c, .int .i64 most, .int .i64 a] w fun e w' => e = .returned (.int .i64 (rboundF ms most a)) ∧ w = w' :=
      fun a h0 h1 => rbound_any w A c ms most a HRM.out HMS.out hm0 hm1 h0 h1
    have HB := Aside0.mk hrb; clear hrb
    have hb0 := rboundF_bd ms most 0 HMS.out hm0 hm1
    obtain ⟨b0, hbb0⟩ : ∃ z, z = rboundF ms most 0 := ⟨_, rfl⟩
    rw [← hbb0] at hb0
    have HB0 := Aside0.mk hbb0; clear hbb0
    go_enter Try.func21, Try.ntmps21
    go_wp2_with (first | ((with_reducible refine hbx.out.mono ?_); rintro e5 w5 ⟨rfl, rfl⟩) | ((with_reducible refine (HB.out 0 (by omega) (by omega)).mono ?_); rintro e5 w5 ⟨rfl, rfl⟩; rw [← HB0.out]))
    go_loop [7, 8] (fun v7 v8 => ∃ (best i : Int), v7 = .int .i64 best ∧ v8 = .int .i64 i ∧ 0 ≤ i ∧ i ≤ ms.length ∧ Aside0 ((ms.drop i.toNat).foldl (rstep ms most) best = rBoundF ms most)) (fun _ v => ms.length - (intOf v).toNat)
    case atStart => exact ⟨b0, 0, rfl, rfl, by omega, by omega, ⟨by rw [HB0.out]; rfl⟩⟩
    case round =>
      obtain ⟨best, i, rfl, rfl, h0, h1, he⟩ := hrel
      by_cases hlt : i < ms.length
      · have he2 := he.out
        rw [drop_rd ms i h0 hlt, List.foldl_cons] at he2
        clear he
        have he := Aside0.mk he2; clear he2
        obtain ⟨ad, e1, g3⟩ := Kd.at_int HRM.out i h0 hlt
        subst e1
        have hm := HMS.out.at_ i h0 hlt
        obtain ⟨m, hmm⟩ : ∃ z, z = rd ms i := ⟨_, rfl⟩
        rw [← hmm] at g3 hm he
        clear hmm
        go_wp2_with fail
        go_loop [7, 9] (fun v7 v9 => ∃ (bst d : Int), v7 = .int .i64 bst ∧ v9 = .int .i64 d ∧ 0 ≤ d ∧ d ≤ 2 ∧ Aside0 (if d = 0 then bst = best else if d = 1 then bst = max (max best (rboundF ms most m)) (rboundF ms most (most - m)) else bst = rstep ms most best m)) (fun _ v => 3 - (intOf v).toNat)
        case atStart => exact ⟨best, 0, rfl, rfl, by omega, by omega, ⟨by rw [if_pos rfl]⟩⟩
        case round =>
          obtain ⟨bst, d, rfl, rfl, hd0, hd1, hst⟩ := hrel
          by_cases hd2 : d < 2
          · obtain ⟨p, hp⟩ : ∃ z, z = rboundF ms most (m + d) := ⟨_, rfl⟩
            obtain ⟨q, hq⟩ : ∃ z, z = rboundF ms most (most - m + d) := ⟨_, rfl⟩
            have HP := Aside0.mk hp; clear hp
            have HQ := Aside0.mk hq; clear hq
            have hfin : Aside0 (if d + 1 = 0 then max (max bst p) q = best else if d + 1 = 1 then max (max bst p) q = max (max best (rboundF ms most m)) (rboundF ms most (most - m)) else max (max bst p) q = rstep ms most best m) := by
              refine ⟨?_⟩
              have hs := hst.out
              rw [HP.out, HQ.out]
              by_cases hd : d = 0
              · subst hd
                rw [if_pos rfl] at hs
                rw [if_neg (by omega), if_pos (by omega), hs, Int.add_zero, Int.add_zero]
              · have : d = 1 := by omega
                subst this
                rw [if_neg (by omega), if_pos rfl] at hs
                rw [if_neg (by omega), if_neg (by omega), hs]; rfl
            clear hst
            by_cases c1 : bst < p
            · by_cases c2 : p < q
              · go_wp2_with (first | ((with_reducible refine (HB.out (m + d) (by omega) (by omega)).mono ?_); rintro e5 w5 ⟨rfl, rfl⟩; rw [← HP.out]) | ((with_reducible refine (HB.out (most - m + d) (by omega) (by omega)).mono ?_); rintro e5 w5 ⟨rfl, rfl⟩; rw [← HQ.out]))
                go_round
                case rel => exact ⟨q, d + 1, by go_num, by go_num, by omega, by omega, by rwa [show max (max bst p) q = q by omega] at hfin⟩
                case measure => simp [intOf]; omega
              · go_wp2_with (first | ((with_reducible refine (HB.out (m + d) (by omega) (by omega)).mono ?_); rintro e5 w5 ⟨rfl, rfl⟩; rw [← HP.out]) | ((with_reducible refine (HB.out (most - m + d) (by omega) (by omega)).mono ?_); rintro e5 w5 ⟨rfl, rfl⟩; rw [← HQ.out]))
                go_round
                case rel => exact ⟨p, d + 1, by go_num, by go_num, by omega, by omega, by rwa [show max (max bst p) q = p by omega] at hfin⟩
                case measure => simp [intOf]; omega
            · by_cases c2 : bst < q
              · go_wp2_with (first | ((with_reducible refine (HB.out (m + d) (by omega) (by omega)).mono ?_); rintro e5 w5 ⟨rfl, rfl⟩; rw [← HP.out]) | ((with_reducible refine (HB.out (most - m + d) (by omega) (by omega)).mono ?_); rintro e5 w5 ⟨rfl, rfl⟩; rw [← HQ.out]))
                go_round
                case rel => exact ⟨q, d + 1, by go_num, by go_num, by omega, by omega, by rwa [show max (max bst p) q = q by omega] at hfin⟩
                case measure => simp [intOf]; omega
              · go_wp2_with (first | ((with_reducible refine (HB.out (m + d) (by omega) (by omega)).mono ?_); rintro e5 w5 ⟨rfl, rfl⟩; rw [← HP.out]) | ((with_reducible refine (HB.out (most - m + d) (by omega) (by omega)).mono ?_); rintro e5 w5 ⟨rfl, rfl⟩; rw [← HQ.out]))
                go_round
                case rel => exact ⟨bst, d + 1, by go_num, by go_num, by omega, by omega, by rwa [show max (max bst p) q = bst by omega] at hfin⟩
                case measure => simp [intOf]; omega
          · have hs : bst = rstep ms most best m := by
              have := hst.out
              rwa [if_neg (by omega), if_neg (by omega)] at this
            have HS := Aside0.mk hs; clear hs hst
            go_wp2_with fail
            go_round
            case rel => exact ⟨bst, i + 1, rfl, by go_num, by omega, by omega, ⟨by rw [HS.out]; exact he.out⟩⟩
            case measure => simp [intOf]; omega
      · go_wp2_with fail
        go_ret2
        have h2 := he.out
        rw [show i.toNat = ms.length by omega, List.drop_length] at h2
        exact ⟨by rw [← h2]; rfl, rfl⟩
  · rw [if_neg hz]
    have hzb : (e0 != 0) = true := by simp [hz]
    clear he0
    go_enter Try.func21, Try.ntmps21
    go_wp2_with ((with_reducible refine hbx.out.mono ?_); rintro e5 w5 ⟨rfl, rfl⟩)
    go_ret2
    exact ⟨rfl, rfl⟩

end Go.Proofs.Ytnoocdobldchoaa

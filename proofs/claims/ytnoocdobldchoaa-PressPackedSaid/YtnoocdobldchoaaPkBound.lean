/- What the program's bound answers. -/
import Derived.Test.YtnoocdobldchoaaPkThings
import Derived.Test.YtnoocdobldchoaaPkB
import Derived.Test.YtnoocdobldchoaaWRepsOne
namespace Go.Proofs.Ytnoocdobldchoaa
open Go.RowKit Go.Proofs.YtnoocdobldchoaaW.PrintWords Go.Proofs.YtnoocdobldchoaaW.PrintMore Go.Proofs.YtnoocdobldchoaaW.PrintLast

theorem info3 : (Try.prog.info? 3).map (fun i => (i.zero, i.size, i.bytes)) = some (some (.int .i64 0), 1, 8) := by kernel_rfl

set_option maxHeartbeats 4000000 in
theorem bound_any (w : World) (A : Option Addr) (c : Nat) (ms : List Int) (most : Int) (h : (Kd.int .i64).C w A ms.length ms) (hms : MOK ms) (hm0 : 1 ≤ most) (hm1 : most ≤ 1073741824) :
    Calls Try.prog 42 #[.slice A ms.length c, .int .i64 most] w fun e w' => e = .returned (.int .i64 (boundF ms most)) ∧ Below w.heap.size w w' := by
  have HR0 := Aside0.mk h; clear h
  have hml := hms.1
  have HMS := Aside0.mk hms; clear hms
  have HB := Aside0.mk (Below.refl w.heap.size w)
  obtain ⟨y101, hy101⟩ : ∃ y_ : List Int, y_ = ([0] : List Int) := ⟨_, rfl⟩
  have Ny101 := Aside0.mk hy101; clear hy101
  obtain ⟨y104, hy104⟩ : ∃ y_ : List Int, y_ = y101 ++ ms := ⟨_, rfl⟩
  have hyl : y104.length = 1 + ms.length := by rw [hy104, Ny101.out]; simp; omega
  have hyl2 : y101.length = 1 := by rw [Ny101.out]; rfl
  have Ny104 := Aside0.mk hy104; clear hy104
  go_enter Try.func42, Try.ntmps42
  go_wp2_with (first | ((with_reducible refine gate_dst (N := 16) rfl ?_); refine Kd.R_lit (Kd.int .i64) _ 3 ?hg (N := 16) ?hd (xs := ([0] : List Int)) (inner := [.int .i64 0]) (ok := fun _ => True) (okp := fun _ => True) ?hr ?hp (fun _ hk => hk) trivial (Below.refl _ _) (Nat.le_refl _) (by simp) ?_; (case hd => rfl); (case hg => rfl); (case hr => first | (go_simp; done) | (go_simp; rfl)); (case hp => exact (Reps.one (show Kd.M (Kd.int .i64) _ _ _ 0 [.int .i64 0] from rfl) (Reps.none _ _))); intro v102 w4 ho5 hb hg_ hnew_; clear hg_ hnew_; (first | rw [← Ny101.out] at ho5 | (simp only [Int.reduceToNat] at ho5; rw [← Ny101.out] at ho5)); have n0_ := Aside0.mk (Kd.R_lower ho5 (below_size (by repeat (first | (with_reducible first | exact HB.out | apply below_alloc | apply pw_below_drewN | apply below_drew1) | exact HB.out)))); have n1_ := Aside0.mk (below_step (by repeat (first | (with_reducible first | exact HB.out | apply below_alloc | apply pw_below_drewN | apply below_drew1) | exact HB.out)) hb); clear HB; have HO103 := n0_; have HB := n1_; clear n0_ n1_; clear hb ho5) | ((with_reducible refine gate_builtin (b := .append) (xs := #[.tmp 16, .tmp 17]) rfl ?_); at_builtin; refine Kd.R_append_rows (Kd.int .i64) (w0 := w) w.heap.size rfl (.tmp 16) (.tmp 17) 22 3 (.int .i64 0) 8 rfl Try.underlying22 info3 rfl (by decide) (by omega) v102 y101 ms _ _ _ (fun _ => True) (fun _ => False) rfl rfl ?aO ?aR (fun _ _ h => h) (fun _ h => h.elim) ?aF ?aB ?aS ?aL ?_; (case aR => repeat (first | exact (Kd.C_below HR0.out HB.out) | (with_reducible refine Kd.C_alloc ?_ _) | (with_reducible refine Kd.C_drewN ?_ _) | (with_reducible refine Kd.C_drew ?_))); (case aB => exact (by repeat (first | (with_reducible first | exact HB.out | apply below_alloc | apply pw_below_drewN | apply below_drew1) | exact HB.out))); (case aF => exact (fun _ _ => trivial)); (case aO => exact (by (with_reducible repeat (first | apply Kd.R_alloc | apply Kd.R_drewN | apply Kd.R_drew)); exact HO103.out)); (case aS => exact (below_size (by repeat (first | (with_reducible first | exact HB.out | apply below_alloc | apply pw_below_drewN | apply below_drew1) | exact HB.out)))); (case aL => omega); intro v105 w6 ho hb hg hat; rw [← Ny104.out] at ho; have n0_ := Aside0.mk (hb); have n1_ := Aside0.mk (ho); clear HB; clear HO103; have HB := n0_; have HO106 := n1_; clear n0_ n1_; clear ho hb hg hat; obtain ⟨Ao7, co7, eo7⟩ := Kd.R_slice HO106.out; subst eo7))
  have HRY := Aside0.mk (Kd.R_reads' HO106.out).2.2
  have HRM := Aside0.mk (Kd.C_below HR0.out HB.out)
  clear HR0 HO106
  have hy1 : ∀ i : Int, 0 ≤ i → i < y104.length → 0 ≤ rd y104 i ∧ rd y104 i ≤ 1073741824 := by
    intro i h0 h1
    have e : y104 = 0 :: ms := by rw [Ny104.out, Ny101.out]; rfl
    rw [e] at h1 ⊢
    by_cases hi : i = 0
    · subst hi; simp [rd]
    · have := HMS.out.at_ (i - 1) (by omega) (by simp at h1; omega)
      have e2 : rd (0 :: ms) i = rd ms (i - 1) := by
        unfold rd
        rw [show i.toNat = (i - 1).toNat + 1 by omega]; rfl
      omega
  have HY1 := Aside0.mk hy1; clear hy1
  have hfin : boundF ms most = y104.foldl (fun best a => if most < 2 * a then best else max best (bval ms most a)) 0 := by
    rw [Ny104.out, Ny101.out]; rfl
  have HFIN := Aside0.mk hfin; clear hfin
  go_loop [5, 20] (fun v5 v20 => ∃ (best i : Int), v5 = .int .i64 best ∧ v20 = .int .i64 i ∧ 0 ≤ i ∧ i ≤ y104.length ∧ 0 ≤ best ∧ best ≤ 1099511627776 ∧ Aside0 ((y104.drop i.toNat).foldl (fun best a => if most < 2 * a then best else max best (bval ms most a)) best = y104.foldl (fun best a => if most < 2 * a then best else max best (bval ms most a)) 0)) (fun _ v => y104.length - (intOf v).toNat)
  case atStart => exact ⟨0, 0, rfl, rfl, by omega, by omega, by omega, by omega, ⟨rfl⟩⟩
  case round =>
    obtain ⟨best, i, rfl, rfl, h0, h1, hb0, hb1, he⟩ := hrel
    by_cases hlt : i < y104.length
    · obtain ⟨ad, e1, g3⟩ := Kd.at_int HRY.out i h0 hlt
      subst e1
      have ha := HY1.out i h0 hlt
      have he2 := he.out
      rw [drop_rd y104 i h0 hlt, List.foldl_cons] at he2
      obtain ⟨a, haa⟩ : ∃ z, z = rd y104 i := ⟨_, rfl⟩
      rw [← haa] at g3 ha he2
      clear haa he
      have he := Aside0.mk he2; clear he2
      by_cases hc : most < 2 * a
      · go_wp2_with fail
        go_round
        case rel =>
          have he2 := he.out
          rw [if_pos hc] at he2
          exact ⟨best, i + 1, rfl, by go_num, by omega, by omega, by omega, by omega, ⟨he2⟩⟩
        case measure => simp [intOf]; omega
      · have he2 := he.out
        rw [if_neg hc] at he2
        clear he
        have he := Aside0.mk he2; clear he2
        go_wp2_with fail
        go_loop [8, 9, 10, 11, 30] (fun v8 v9 v10 v11 v30 => ∃ (s1 s2 s3 s4 j : Int), v8 = .int .i64 s1 ∧ v9 = .int .i64 s2 ∧ v10 = .int .i64 s3 ∧ v11 = .int .i64 s4 ∧ v30 = .int .i64 j ∧ 0 ≤ j ∧ j ≤ ms.length ∧ BB j (s1, s2, s3, s4) ∧ Aside0 ((ms.drop j.toNat).foldl (bstep most a) (s1, s2, s3, s4) = ms.foldl (bstep most a) (0, 0, 0, 0))) (fun _ _ _ _ v => ms.length - (intOf v).toNat)
        case atStart => exact ⟨0, 0, 0, 0, 0, rfl, rfl, rfl, rfl, rfl, by omega, by omega, by unfold BB; simp, ⟨rfl⟩⟩
        case round =>
          obtain ⟨s1, s2, s3, s4, j, rfl, rfl, rfl, rfl, rfl, hj0, hj1, hbb, hf⟩ := hrel
          have hbb' := hbb
          unfold BB at hbb'
          obtain ⟨⟨k1, k2⟩, ⟨k3, k4⟩, ⟨k5, k6⟩, k7, k8⟩ := hbb'
          dsimp only at k1 k2 k3 k4 k5 k6 k7 k8
          have HBB := Aside0.mk hbb; clear hbb
          by_cases hjl : j < ms.length
          · obtain ⟨ad2, e1, g4⟩ := Kd.at_int HRM.out j hj0 hjl
            subst e1
            have hm := HMS.out.at_ j hj0 hjl
            have hf2 := hf.out
            rw [drop_rd ms j hj0 hjl, List.foldl_cons] at hf2
            obtain ⟨m, hmm⟩ : ∃ z, z = rd ms j := ⟨_, rfl⟩
            rw [← hmm] at g4 hm hf2
            clear hmm hf
            have hf := Aside0.mk hf2; clear hf2
            have hst := HBB.out.step most a m (by omega) (by omega)
            by_cases d1 : most - a < m
            · have e1 : bstep most a (s1, s2, s3, s4) m = (s1 + 1, s2, s3, s4) := by unfold bstep; rw [if_pos d1]
              rw [e1] at hst
              have E := Aside0.mk e1; clear e1
              have HS := Aside0.mk hst; clear hst
              go_wp2_with fail
              go_round
              case rel => exact ⟨s1 + 1, s2, s3, s4, j + 1, by go_num, by go_num, rfl, rfl, by go_num, by omega, by omega, HS.out, ⟨by have := hf.out; rwa [E.out] at this⟩⟩
              case measure => simp [intOf]; omega
            · by_cases d2 : most < 2 * m
              · have e1 : bstep most a (s1, s2, s3, s4) m = (s1, s2 + 1, s3 + m, s4) := by unfold bstep; rw [if_neg d1, if_pos d2]
                rw [e1] at hst
                have E := Aside0.mk e1; clear e1
                have HS := Aside0.mk hst; clear hst
                go_wp2_with fail
                go_round
                case rel => exact ⟨s1, s2 + 1, s3 + m, s4, j + 1, by go_num, by go_num, by go_num, by go_num, by go_num, by omega, by omega, HS.out, ⟨by have := hf.out; rwa [E.out] at this⟩⟩
                case measure => simp [intOf]; omega
              · by_cases d3 : a ≤ m
                · have e1 : bstep most a (s1, s2, s3, s4) m = (s1, s2, s3, s4 + m) := by unfold bstep; rw [if_neg d1, if_neg d2, if_pos d3]
                  rw [e1] at hst
                  have E := Aside0.mk e1; clear e1
                  have HS := Aside0.mk hst; clear hst
                  go_wp2_with fail
                  go_round
                  case rel => exact ⟨s1, s2, s3, s4 + m, j + 1, by go_num, by go_num, by go_num, by go_num, by go_num, by omega, by omega, HS.out, ⟨by have := hf.out; rwa [E.out] at this⟩⟩
                  case measure => simp [intOf]; omega
                · have e1 : bstep most a (s1, s2, s3, s4) m = (s1, s2, s3, s4) := by unfold bstep; rw [if_neg d1, if_neg d2, if_neg d3]
                  rw [e1] at hst
                  have E := Aside0.mk e1; clear e1
                  have HS := Aside0.mk hst; clear hst
                  go_wp2_with fail
                  go_round
                  case rel => exact ⟨s1, s2, s3, s4, j + 1, by go_num, by go_num, by go_num, by go_num, by go_num, by omega, by omega, HS.out, ⟨by have := hf.out; rwa [E.out] at this⟩⟩
                  case measure => simp [intOf]; omega
          · have hm2 := mul_bd k3 k4 (show 0 ≤ most by omega) hm1
            have hf2 := hf.out
            rw [show j.toNat = ms.length by omega, List.drop_length] at hf2
            obtain ⟨p, hp⟩ : ∃ z, z = s2 * most := ⟨_, rfl⟩
            rw [← hp] at hm2
            have hp' : s2 * most = p := hp.symm
            clear hp
            have hbv : bval ms most a = if 0 < s4 - (p - s3) then s1 + s2 + ((s4 - (p - s3)) + most - 1) / most else s1 + s2 := by
              unfold bval; rw [← hf2]; show bform most (s1, s2, s3, s4) = _; unfold bform brest; dsimp only; rw [hp']
            clear hf hf2
            have HV := Aside0.mk hbv; clear hbv
            have hq0 : 0 ≤ (s4 - (p - s3) + most - 1) / most ∨ ¬ 0 < s4 - (p - s3) := by
              by_cases hpos : 0 < s4 - (p - s3)
              · exact .inl (Int.ediv_nonneg (by omega) (by omega))
              · exact .inr hpos
            have hq1 : (s4 - (p - s3) + most - 1) / most ≤ 1000000000000 := by
              refine Int.le_trans (Int.ediv_le_ediv (b := 1000000000000) (by omega) (by omega)) ?_
              refine Int.ediv_le_of_le_mul (by omega) ?_
              have := Int.mul_le_mul_of_nonneg_left hm0 (show (0 : Int) ≤ 1000000000000 by omega)
              omega
            obtain ⟨bv, hbv2⟩ : ∃ z, z = bval ms most a := ⟨_, rfl⟩
            by_cases hpos : 0 < s4 - (p - s3)
            · have hq2 := hq0.resolve_right (fun hn => hn hpos)
              clear hq0
              have hv := HV.out
              rw [if_pos hpos] at hv
              rw [← hbv2] at hv
              by_cases hmx : best < s1 + s2 + (s4 - (p - s3) + most - 1) / most
              · have HV2 := Aside0.mk hv; clear hv
                have HBV := Aside0.mk hbv2; clear hbv2
                go_wp2_with fail
                go_round
                case rel =>
                  have he2 := he.out
                  rw [← HBV.out, HV2.out, Int.max_eq_right (by omega)] at he2
                  exact ⟨_, i + 1, rfl, by go_num, by omega, by omega, by omega, by omega, ⟨he2⟩⟩
                case measure => simp [intOf]; omega
              · have HV2 := Aside0.mk hv; clear hv
                have HBV := Aside0.mk hbv2; clear hbv2
                go_wp2_with fail
                go_round
                case rel =>
                  have he2 := he.out
                  rw [← HBV.out, HV2.out, Int.max_eq_left (by omega)] at he2
                  exact ⟨_, i + 1, rfl, by go_num, by omega, by omega, by omega, by omega, ⟨he2⟩⟩
                case measure => simp [intOf]; omega
            · clear hq0 hq1
              have hv := HV.out
              rw [if_neg hpos] at hv
              rw [← hbv2] at hv
              by_cases hmx : best < s1 + s2
              · have HV2 := Aside0.mk hv; clear hv
                have HBV := Aside0.mk hbv2; clear hbv2
                go_wp2_with fail
                go_round
                case rel =>
                  have he2 := he.out
                  rw [← HBV.out, HV2.out, Int.max_eq_right (by omega)] at he2
                  exact ⟨_, i + 1, rfl, by go_num, by omega, by omega, by omega, by omega, ⟨he2⟩⟩
                case measure => simp [intOf]; omega
              · have HV2 := Aside0.mk hv; clear hv
                have HBV := Aside0.mk hbv2; clear hbv2
                go_wp2_with fail
                go_round
                case rel =>
                  have he2 := he.out
                  rw [← HBV.out, HV2.out, Int.max_eq_left (by omega)] at he2
                  exact ⟨_, i + 1, rfl, by go_num, by omega, by omega, by omega, by omega, ⟨he2⟩⟩
                case measure => simp [intOf]; omega
    · go_wp2_with fail
      go_ret
      have he2 := he.out
      rw [show i.toNat = y104.length by omega, List.drop_length] at he2
      exact ⟨ret_int (he2.trans HFIN.out.symm), HB.out⟩
end Go.Proofs.Ytnoocdobldchoaa

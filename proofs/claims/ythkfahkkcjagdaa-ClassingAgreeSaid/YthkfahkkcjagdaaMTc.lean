/- The reference's order of subsamples: its walk. Printed by gen_t9.py. -/
import Derived.Test.YthkfahkkcjagdaaMTb
namespace Go.Proofs.Ythkfahkkcjagdaa
open Go.RowKit Go.Proofs.YthkfahkkcjagdaaW.PrintWords Go.Proofs.YthkfahkkcjagdaaW.PrintMore Go.Proofs.YthkfahkkcjagdaaW.PrintLast
set_option linter.unusedSimpArgs false
set_option linter.unusedVariables false

def ordQ (xs : List Sb) (n : Nat) : List Int := srt (cfS xs) (upto n)
theorem ordQ_length (xs : List Sb) (n : Nat) : (ordQ xs n).length = n := by unfold ordQ; rw [(srt_perm' _ _).length_eq, upto_length]
theorem ordQ_mem {xs : List Sb} {n : Nat} {x : Int} (h : x ∈ ordQ xs n) : 0 ≤ x ∧ x < n := (upto_mem n x).1 ((srt_perm' _ _).mem_iff.1 h)
theorem blk5 {w : World} {p : Nat} {a b c d e : Int} (h : w.heap[p]? = some (.cells #[.int .i64 a, .int .i64 b, .int .i64 c, .int .i64 d, .int .i64 e] 55 (0, 0))) : Blk w p [.int .i64 a, .int .i64 b, .int .i64 c, .int .i64 d, .int .i64 e] 55 := h
set_option maxHeartbeats 16000000 in
set_option maxRecDepth 100000 in
theorem rorder_any (w : World) (A : Option Addr) (n c : Nat) (xs : List Sb) (tol st : Int) (vu : Value) (hn : xs.length = n) (h : kQ.C w A n xs) (hok : ∀ s ∈ xs, SbOK s) (hn8 : n ≤ 8) :
    Calls Try.prog 94 #[.agg #[.int .i64 tol, .slice A n c, .int .i64 st, vu]] w fun e w' => ∃ v, e = .returned v ∧ RI w' w.heap.size (fun _ => True) v (ordS xs) ∧ Below w.heap.size w w' := by
  have b1 := below_alloc (Below.refl w.heap.size w) (.cells #[.int .i64 tol, .slice A n c, .int .i64 st, vu] 92)
  have H1 := Aside0.mk (And.intro b1 (And.intro (Blk.new w [.int .i64 tol, .slice A n c, .int .i64 st, vu] 92) (Kd.C_below h b1)))
  have HC := Aside0.mk (And.intro hn (And.intro hok (cfS_law hok)))
  have HRW := Aside0.mk (fun W (i : Nat) => rwool_any W (rdQ_ok hok i))
  have HBD := Aside0.mk (fun i j => prod_bd (woolS_bd (rdQ_ok hok i)).1 (woolS_bd (rdQ_ok hok i)).2 (show 0 ≤ (rdQ xs j).raw by have := (rdQ_ok hok j).r1; omega) (rdQ_ok hok j).r2)
  clear hn h hok b1
  go_enter Try.func94, Try.ntmps94
  go_upto_region 2 with fail
  obtain ⟨bx, hbx⟩ : ∃ z, z = w.heap.size := ⟨_, rfl⟩
  generalize w.alloc (.cells #[.int .i64 tol, .slice A n c, .int .i64 st, vu] 92) = w1 at H1 ⊢
  have HBX : Aside0 (Below w.heap.size w w1 ∧ Blk w1 bx [.int .i64 tol, .slice A n c, .int .i64 st, vu] 92 ∧ kQ.C w1 A n xs) := ⟨H1.out.1, by rw [hbx]; exact H1.out.2.1, H1.out.2.2⟩
  rw [← hbx]
  clear hbx H1
  go_upto_region 3 with fail
  go_loopw [3, 4, 5, 6, 7, 8, 9] (fun v3 v4 _ _ _ _ _ wr => ∃ i : Nat, v4 = .int .i64 i ∧ i ≤ n ∧ Aside0 (RI wr w1.heap.size (fun _ => True) v3 (ordQ xs i) ∧ Below w1.heap.size w1 wr)) (fun _ v4 _ _ _ _ _ _ => n - (intOf v4).toNat)
  case atStart => exact ⟨0, rfl, by omega, ⟨Kd.R_nil _ _ _ _ _, Below.refl _ _⟩⟩
  case round =>
    obtain ⟨i, rfl, hi, HI⟩ := hrel
    have s1 := (HBX.out.2.1.below HI.out.2).at_ (i := 1) rfl
    by_cases hlt : i < n
    · have hlti : (i : Int) < n := by omega
      obtain ⟨A3, c3, hv3, hc3, hr3⟩ := Kd.R_reads HI.out.1
      rw [ordQ_length] at hv3 hc3 hr3
      have H3 := Aside0.mk (And.intro hr3 HI.out.2); clear hr3
      subst hv3
      obtain ⟨wo, rfl⟩ : ∃ wo : World, wo = wr := ⟨_, rfl⟩
      obtain ⟨ad, e1, _⟩ := at_Q (Kd.C_below HBX.out.2.2 HI.out.2) i hlt
      subst e1
      go_upto_region 8 with fail
      clear s1
      go_loopw [5, 6, 7, 8, 9] (fun v5 v6 v7 _ _ wr => ∃ (j : Nat) (b : Bool), v7 = .int .i64 j ∧ v6 = .bool b ∧ j ≤ i ∧ Aside0 (b = (runI (cfS xs) i ((ordQ xs i).take j)).2 ∧ RI wr wo.heap.size (fun _ => True) v5 (runI (cfS xs) i ((ordQ xs i).take j)).1 ∧ Below wo.heap.size wo wr)) (fun _ _ v7 _ _ _ => i - (intOf v7).toNat)
      case atStart => exact ⟨0, false, rfl, rfl, by omega, ⟨rfl, Kd.R_nil _ _ _ _ _, Below.refl _ _⟩⟩
      case round =>
        obtain ⟨j, b, rfl, rfl, hj, HJ⟩ := hrel
        have hrl : (runI (cfS xs) i ((ordQ xs i).take j)).1.length ≤ 200 := by
          have := run_len (cfS xs) i ((ordQ xs i).take j) ([], false)
          rw [List.length_take, ordQ_length] at this
          unfold runI
          simp at this ⊢
          omega
        have HRL := Aside0.mk hrl; clear hrl
        by_cases hjt : j < i
        · have hjti : (j : Int) < i := by omega
          obtain ⟨ad3, e3, g3⟩ := Kd.at_int (Kd.C_below H3.out.1 HJ.out.2.2) (j : Int) (by omega) hjti
          subst e3
          rw [Int.toNat_natCast] at g3
          have hst := run_succ (cfS xs) i (ordQ xs i) (i := j) (by rw [ordQ_length]; exact hjt)
          have hm := ordQ_mem (getD_mem (l := ordQ xs i) (i := j) (by rw [ordQ_length]; exact hjt))
          have hrd : rd (ordQ xs i) (j : Int) = (ordQ xs i).getD j 0 := by unfold rd; rw [Int.toNat_natCast]
          rw [hrd] at g3
          obtain ⟨y, hy⟩ : ∃ z, z = (ordQ xs i).getD j 0 := ⟨_, rfl⟩
          rw [← hy] at g3 hst hm
          have HRD := Aside0.mk (hrd.trans hy.symm)
          clear hy hrd
          obtain ⟨y, rfl⟩ : ∃ y' : Nat, y = y' := ⟨y.toNat, by omega⟩
          have hyi : y < i := by omega
          have hb2 := below_step HI.out.2 HJ.out.2.2
          have s1 := (HBX.out.2.1.below hb2).at_ (i := 1) rfl
          obtain ⟨ad2, e2, k0, k1, k2, k3, k4⟩ := at_Q (Kd.C_below HBX.out.2.2 hb2) y (by omega)
          cases e2
          obtain ⟨ad1, e1, m0, m1, m2, m3, m4⟩ := at_Q (Kd.C_below HBX.out.2.2 hb2) i hlt
          cases e1
          have hcf : cfS xs (i : Int) (y : Int) < 0 ↔ woolS (rdQ xs i) * (rdQ xs y).raw < woolS (rdQ xs y) * (rdQ xs i).raw := by unfold cfS; rw [Int.toNat_natCast, Int.toNat_natCast]; exact cfN_neg
          have p1 := HBD.out i y
          have p2 := HBD.out y i
          have HWI := Aside0.mk (fun W => HRW.out W i)
          have HWY := Aside0.mk (fun W => HRW.out W y)
          obtain ⟨wi, hwi⟩ : ∃ z, z = woolS (rdQ xs i) := ⟨_, rfl⟩
          obtain ⟨wy, hwy⟩ : ∃ z, z = woolS (rdQ xs y) := ⟨_, rfl⟩
          rw [← hwi] at hcf p1 HWI
          rw [← hwy] at hcf p2 HWY
          generalize rdQ xs i = fi at m0 m1 m2 m3 m4 hcf p2 HWI hwi
          generalize rdQ xs y = fy at k0 k1 k2 k3 k4 hcf p1 HWY hwy
          obtain ⟨ir, id_, ia, ig, iv⟩ := fi
          obtain ⟨yr, yd, ya, yg, yv⟩ := fy
          dsimp only at m0 m1 m2 m3 m4 k0 k1 k2 k3 k4 hcf p1 p2 HWI HWY
          have HST := Aside0.mk (And.intro hst hcf)
          have hyn : (y : Int) < n := by omega
          have hyn2 : y < n := by omega
          have al : ∀ {a : Addr} {v : Value} {W : World}, W.cell? a = some v → ∀ o, (W.alloc o).cell? a = some v := fun {a v W} h o => (World.cell?_alloc_lt W o a (World.block_lt_of_cell? W a h)).trans h
          have s1a := al s1
          have s1b := fun o => al (s1a o)
          have g3a := al g3
          have g3b := fun o => al (g3a o)
          have m0a := al m0
          have m0b := fun o => al (m0a o)
          have m1a := al m1
          have m1b := fun o => al (m1a o)
          have m2a := al m2
          have m2b := fun o => al (m2a o)
          have m3a := al m3
          have m3b := fun o => al (m3a o)
          have m4a := al m4
          have m4b := fun o => al (m4a o)
          have k0a := al k0
          have k0b := fun o => al (k0a o)
          have k1a := al k1
          have k1b := fun o => al (k1a o)
          have k2a := al k2
          have k2b := fun o => al (k2a o)
          have k3a := al k3
          have k3b := fun o => al (k3a o)
          have k4a := al k4
          have k4b := fun o => al (k4a o)
          clear al hst hcf hwi hwy hm hb2
          obtain ⟨p1a, p1b⟩ := p1
          obtain ⟨p2a, p2b⟩ := p2
          go_upto_region 10 with fail
          go_cut [8, 9] from 23 to 35 (fun a b w3 => ∃ p q : Nat, a = .pointer (some ⟨p, 0, none⟩) ∧ b = .pointer (some ⟨q, 0, none⟩) ∧ Aside0 (w3.heap[p]? = some (.cells #[.int .i64 ir, .int .i64 id_, .int .i64 ia, .int .i64 ig, .int .i64 iv] 55 (0, 0)) ∧ w3.heap[q]? = some (.cells #[.int .i64 yr, .int .i64 yd, .int .i64 ya, .int .i64 yg, .int .i64 yv] 55 (0, 0)) ∧ Below wr.heap.size wr w3))
          case first =>
            go_region
            all_goals go_wp2_with fail
            all_goals go_meet
            all_goals (case rel => exact ⟨_, _, rfl, rfl, ⟨by first | exact h2_0 .. | exact h2_1 .., by first | exact h2_0 .. | exact h2_1 .., h2_b ..⟩⟩)
          case rest =>
          obtain ⟨p, q, rfl, rfl, ⟨hp, hq, hbw⟩⟩ := hcut
          have HPQ := Aside0.mk (And.intro (blk5 hp) (And.intro (blk5 hq) hbw))
          have g3c := cell_keep hbw g3
          clear s1 s1a s1b m0 m0a m0b m1 m1a m1b m2 m2a m2b m3 m3a m3b m4 m4a m4b k0 k0a k0b k1 k1a k1b k2 k2a k2b k3 k3a k3b k4 k4a k4b g3a g3b hp hq hbw g3
          have HJ2 := Aside0.mk (And.intro (Kd.R_below HJ.out.2.1 HPQ.out.2.2) (below_step HJ.out.2.2 HPQ.out.2.2))
          cases b with
          | true =>
            have HS2 : Aside0 (runI (cfS xs) i ((ordQ xs i).take (j + 1)) = ((runI (cfS xs) i ((ordQ xs i).take j)).1 ++ [(y : Int)], true)) := ⟨by
              rw [HST.out.1]
              unfold stepI
              rw [if_neg (by rw [← HJ.out.1]; simp), ← HJ.out.1]⟩
            go_upto_region 11 with fail
            go_quiet (fail)
            go_upto_region 9 with ((with_reducible refine gate_builtin (b := .append) (xs := #[.tmp 55, .tmp 60]) rfl ?_); at_builtin; refine Kd.R_append (Kd.int .i64) (w0 := wo) wo.heap.size rfl (.tmp 55) (.tmp 60) 35 3 (.int .i64 0) 8 rfl Try.underlying35 i3r rfl (by decide) (by decide) u5 (runI (cfS xs) i ((ordQ xs i).take j)).1 (y : Int) [.int .i64 (y : Int)] (fun _ => True) (fun _ => False) rfl rfl ?aP (fun _ hk => hk.elim) ?aF ?aO ?aB ?aS ?aL ?_; (case aP => exact rfl); (case aB => exact below_step HJ2.out.2 (bdN _ _)); (case aF => exact (fun _ _ => trivial)); (case aO => exact Kd.R_drewN HJ2.out.1 _); (case aS => exact (below_step HJ2.out.2 (bdN _ _)).size); (case aL => have := HRL.out; omega); intro v6 w6 ho hb hg hat; have H6 := Aside0.mk (And.intro ho hb); clear ho hb hg hat)
            have HN : Aside0 (true = (runI (cfS xs) i ((ordQ xs i).take (j + 1))).2 ∧ RI w6 wo.heap.size (fun _ => True) v6 (runI (cfS xs) i ((ordQ xs i).take (j + 1))).1 ∧ Below wo.heap.size wo w6) := ⟨by rw [HS2.out], by rw [HS2.out]; exact H6.out.1, H6.out.2⟩
            go_wp2_with fail
            go_roundw
            case rel => exact ⟨j + 1, true, by go_num, by go_num, by omega, HN⟩
            case measure => simp [intOf]; omega
          | false =>
            have k1' : IntKind.i64.wrap (wi * yr) = wi * yr := IntWalk.i64_in _ (by omega)
            have k2' : IntKind.i64.wrap (wy * ir) = wy * ir := IntWalk.i64_in _ (by omega)
            have HS0 := Aside0.mk (fun (W : World) (hW : Below wc.heap.size wc W) => (⟨⟨hW⟩, (HPQ.out.1.below hW).at_ (i := 0) rfl, (HPQ.out.1.below hW).at_ (i := 1) rfl, (HPQ.out.1.below hW).at_ (i := 2) rfl, (HPQ.out.1.below hW).at_ (i := 3) rfl, (HPQ.out.1.below hW).at_ (i := 4) rfl, (HPQ.out.2.1.below hW).at_ (i := 0) rfl, (HPQ.out.2.1.below hW).at_ (i := 1) rfl, (HPQ.out.2.1.below hW).at_ (i := 2) rfl, (HPQ.out.2.1.below hW).at_ (i := 3) rfl, (HPQ.out.2.1.below hW).at_ (i := 4) rfl⟩ : Aside0 (Below wc.heap.size wc W) ∧ W.cell? ⟨p, 0, none⟩ = some (.int .i64 ir) ∧ W.cell? ⟨p, 1, none⟩ = some (.int .i64 id_) ∧ W.cell? ⟨p, 2, none⟩ = some (.int .i64 ia) ∧ W.cell? ⟨p, 3, none⟩ = some (.int .i64 ig) ∧ W.cell? ⟨p, 4, none⟩ = some (.int .i64 iv) ∧ W.cell? ⟨q, 0, none⟩ = some (.int .i64 yr) ∧ W.cell? ⟨q, 1, none⟩ = some (.int .i64 yd) ∧ W.cell? ⟨q, 2, none⟩ = some (.int .i64 ya) ∧ W.cell? ⟨q, 3, none⟩ = some (.int .i64 yg) ∧ W.cell? ⟨q, 4, none⟩ = some (.int .i64 yv)))
            go_upto_region 11 with fail
            go_region_held3 (fun W => Aside0 (Below wc.heap.size wc W) ∧ W.cell? ⟨p, 0, none⟩ = some (.int .i64 ir) ∧ W.cell? ⟨p, 1, none⟩ = some (.int .i64 id_) ∧ W.cell? ⟨p, 2, none⟩ = some (.int .i64 ia) ∧ W.cell? ⟨p, 3, none⟩ = some (.int .i64 ig) ∧ W.cell? ⟨p, 4, none⟩ = some (.int .i64 iv) ∧ W.cell? ⟨q, 0, none⟩ = some (.int .i64 yr) ∧ W.cell? ⟨q, 1, none⟩ = some (.int .i64 yd) ∧ W.cell? ⟨q, 2, none⟩ = some (.int .i64 ya) ∧ W.cell? ⟨q, 3, none⟩ = some (.int .i64 yg) ∧ W.cell? ⟨q, 4, none⟩ = some (.int .i64 yv))
              ((refine HS0.out _ ?_; repeat (with_reducible (first | exact Below.refl _ _ | exact HB7.out | exact HB8.out | refine below_drew ?_))))
              (first
                | ((with_reducible refine (HWI.out _).mono ?_); rintro e7 w7 ⟨rfl, hb7⟩; have HB7 := Aside0.mk (below_step (hbT (by assumption)) hb7); clear hb7)
                | ((with_reducible refine (HWY.out _).mono ?_); rintro e8 w8 ⟨rfl, hb8⟩; have HB8 := Aside0.mk (below_step (hbT (by assumption)) hb8); clear hb8))
            have HJ8 := Aside0.mk (And.intro (Kd.R_below HJ2.out.1 HB8.out) (below_step HJ2.out.2 HB8.out))
            have g4 := cell_keep HB8.out g3c
            clear g3c k1' k2'
            by_cases hD : wi * yr < wy * ir
            · have dd : decide (wi * yr < wy * ir) = true := decide_eq_true hD
              have HS2 : Aside0 (runI (cfS xs) i ((ordQ xs i).take (j + 1)) = ((runI (cfS xs) i ((ordQ xs i).take j)).1 ++ [(i : Int)] ++ [(y : Int)], true)) := ⟨by
                rw [HST.out.1]
                unfold stepI
                rw [if_pos ⟨HJ.out.1.symm, HST.out.2.2 hD⟩]⟩
              skip
              go_upto_region 13 with ((with_reducible refine gate_builtin (b := .append) (xs := #[.tmp 51, .tmp 53]) rfl ?_); at_builtin; refine Kd.R_append (Kd.int .i64) (w0 := wo) wo.heap.size rfl (.tmp 51) (.tmp 53) 35 3 (.int .i64 0) 8 rfl Try.underlying35 i3r rfl (by decide) (by decide) u5 (runI (cfS xs) i ((ordQ xs i).take j)).1 (i : Int) [.int .i64 (i : Int)] (fun _ => True) (fun _ => False) rfl rfl ?aP (fun _ hk => hk.elim) ?aF ?aO ?aB ?aS ?aL ?_; (case aP => exact rfl); (case aB => exact HJ8.out.2); (case aF => exact (fun _ _ => trivial)); (case aO => exact HJ8.out.1); (case aS => exact HJ8.out.2.size); (case aL => have := HRL.out; omega); intro v16 w16 ho hb hg hat; have H16 := Aside0.mk (And.intro ho hb); clear ho hb hg hat)
              obtain ⟨ad5, e5, g5⟩ := Kd.at_int (Kd.C_below H3.out.1 H16.out.2) (j : Int) (by omega) hjti
              cases e5
              rw [Int.toNat_natCast, HRD.out] at g5
              clear g4
              go_upto_region 9 with ((with_reducible refine gate_builtin (b := .append) (xs := #[.tmp 55, .tmp 60]) rfl ?_); at_builtin; refine Kd.R_append (Kd.int .i64) (w0 := wo) wo.heap.size rfl (.tmp 55) (.tmp 60) 35 3 (.int .i64 0) 8 rfl Try.underlying35 i3r rfl (by decide) (by decide) v16 ((runI (cfS xs) i ((ordQ xs i).take j)).1 ++ [(i : Int)]) (y : Int) [.int .i64 (y : Int)] (fun _ => True) (fun _ => False) rfl rfl ?aP (fun _ hk => hk.elim) ?aF ?aO ?aB ?aS ?aL ?_; (case aP => exact rfl); (case aB => exact H16.out.2); (case aF => exact (fun _ _ => trivial)); (case aO => exact H16.out.1); (case aS => exact H16.out.2.size); (case aL => have := HRL.out; simp; omega); intro v17 w17 ho hb hg hat; have H17 := Aside0.mk (And.intro ho hb); clear ho hb hg hat)
              have HN : Aside0 (true = (runI (cfS xs) i ((ordQ xs i).take (j + 1))).2 ∧ RI w17 wo.heap.size (fun _ => True) v17 (runI (cfS xs) i ((ordQ xs i).take (j + 1))).1 ∧ Below wo.heap.size wo w17) := ⟨by rw [HS2.out], by rw [HS2.out]; exact H17.out.1, H17.out.2⟩
              go_wp2_with fail
              go_roundw
              case rel => exact ⟨j + 1, true, by go_num, by go_num, by omega, HN⟩
              case measure => simp [intOf]; omega
            · have dd : decide (wi * yr < wy * ir) = false := decide_eq_false hD
              have HS2 : Aside0 (runI (cfS xs) i ((ordQ xs i).take (j + 1)) = ((runI (cfS xs) i ((ordQ xs i).take j)).1 ++ [(y : Int)], false)) := ⟨by
                rw [HST.out.1]
                unfold stepI
                rw [if_neg (fun e => hD (HST.out.2.1 e.2)), ← HJ.out.1]⟩
              skip
              go_upto_region 9 with ((with_reducible refine gate_builtin (b := .append) (xs := #[.tmp 55, .tmp 60]) rfl ?_); at_builtin; refine Kd.R_append (Kd.int .i64) (w0 := wo) wo.heap.size rfl (.tmp 55) (.tmp 60) 35 3 (.int .i64 0) 8 rfl Try.underlying35 i3r rfl (by decide) (by decide) u5 (runI (cfS xs) i ((ordQ xs i).take j)).1 (y : Int) [.int .i64 (y : Int)] (fun _ => True) (fun _ => False) rfl rfl ?aP (fun _ hk => hk.elim) ?aF ?aO ?aB ?aS ?aL ?_; (case aP => exact rfl); (case aB => exact HJ8.out.2); (case aF => exact (fun _ _ => trivial)); (case aO => exact HJ8.out.1); (case aS => exact HJ8.out.2.size); (case aL => have := HRL.out; omega); intro v16 w16 ho hb hg hat; have H16 := Aside0.mk (And.intro ho hb); clear ho hb hg hat)
              have HN : Aside0 (false = (runI (cfS xs) i ((ordQ xs i).take (j + 1))).2 ∧ RI w16 wo.heap.size (fun _ => True) v16 (runI (cfS xs) i ((ordQ xs i).take (j + 1))).1 ∧ Below wo.heap.size wo w16) := ⟨by rw [HS2.out], by rw [HS2.out]; exact H16.out.1, H16.out.2⟩
              go_wp2_with fail
              go_roundw
              case rel => exact ⟨j + 1, false, by go_num, by go_num, by omega, HN⟩
              case measure => simp [intOf]; omega
        · have hjti : ¬ (j : Int) < i := by omega
          have htk : (ordQ xs i).take j = ordQ xs i := List.take_of_length_le (by rw [ordQ_length]; omega)
          have hfin := fin_run (cfS xs) i (ordQ xs i) []
          have hos : insA (cfS xs) i (ordQ xs i) = ordQ xs (i + 1) := ord_step HC.out.2.2 i
          rw [htk] at HJ HRL
          have HFIN : Aside0 (finI i (runI (cfS xs) i (ordQ xs i)) = ordQ xs (i + 1)) := ⟨by
            unfold runI
            rw [hfin, List.nil_append]
            exact hos⟩
          clear hfin hos htk
          cases b with
          | true =>
            have HN : Aside0 (RI wr w1.heap.size (fun _ => True) u5 (ordQ xs (i + 1)) ∧ Below w1.heap.size w1 wr) := ⟨by
              rw [← HFIN.out]
              unfold finI
              rw [if_neg (by rw [← HJ.out.1]; simp)]
              exact Kd.R_lower HJ.out.2.1 HI.out.2.size, below_step HI.out.2 HJ.out.2.2⟩
            clear HJ HFIN
            go_wp2_with fail
            go_roundw
            case rel => exact ⟨i + 1, by go_num, by omega, HN⟩
            case measure => simp [intOf]; omega
          | false =>
            go_upto_region 17 with ((with_reducible refine gate_builtin (b := .append) (xs := #[.tmp 64, .tmp 66]) rfl ?_); at_builtin; refine Kd.R_append (Kd.int .i64) (w0 := wo) wo.heap.size rfl (.tmp 64) (.tmp 66) 35 3 (.int .i64 0) 8 rfl Try.underlying35 i3r rfl (by decide) (by decide) u5 (runI (cfS xs) i (ordQ xs i)).1 (i : Int) [.int .i64 (i : Int)] (fun _ => True) (fun _ => False) rfl rfl ?aP (fun _ hk => hk.elim) ?aF ?aO ?aB ?aS ?aL ?_; (case aP => exact rfl); (case aB => exact HJ.out.2.2); (case aF => exact (fun _ _ => trivial)); (case aO => exact HJ.out.2.1); (case aS => exact HJ.out.2.2.size); (case aL => have := HRL.out; omega); intro v16 w16 ho hb hg hat; have H16 := Aside0.mk (And.intro ho hb); clear ho hb hg hat)
            have HN : Aside0 (RI w16 w1.heap.size (fun _ => True) v16 (ordQ xs (i + 1)) ∧ Below w1.heap.size w1 w16) := ⟨by
              rw [← HFIN.out]
              unfold finI
              rw [if_pos HJ.out.1.symm]
              exact Kd.R_lower H16.out.1 HI.out.2.size, below_step HI.out.2 H16.out.2⟩
            clear HJ HFIN
            go_wp2_with fail
            go_roundw
            case rel => exact ⟨i + 1, by go_num, by omega, HN⟩
            case measure => simp [intOf]; omega
    · have hlti : ¬ (i : Int) < n := by omega
      have hin : i = n := by omega
      subst hin
      go_wp2_with fail
      go_ret
      refine ⟨_, rfl, Kd.R_lower (by have := HI.out.1; unfold ordQ at this; unfold ordS; rw [HC.out.1]; exact this) HBX.out.1.size, below_step HBX.out.1 HI.out.2⟩
end Go.Proofs.Ythkfahkkcjagdaa
namespace Go.Proofs.Ythkfahkkcjagdaa
open Go.RowKit Go.Proofs.YthkfahkkcjagdaaW.PrintWords Go.Proofs.YthkfahkkcjagdaaW.PrintMore Go.Proofs.YthkfahkkcjagdaaW.PrintLast
set_option linter.unusedSimpArgs false
set_option linter.unusedVariables false

set_option maxHeartbeats 16000000 in
set_option maxRecDepth 100000 in
theorem rwindow_any (w : World) (A : Option Addr) (n m c : Nat) (xs : List Sb) (tol st : Int) (vu : Value) (hn : xs.length = n) (hm : n = 2 * m) (hm1 : 1 ≤ m) (hm4 : m ≤ 4) (h : kQ.C w A n xs) (hok : ∀ s ∈ xs, SbOK s) (ht : 0 ≤ tol ∧ tol ≤ 10000) (h1 : vu.oneCell' = true) :
    Calls Try.prog 93 #[.agg #[.int .i64 tol, .slice A n c, .int .i64 st, vu]] w fun e w' => e = .returned (.tuple #[.int .i64 (winS xs), .int .i64 ((m : Int) + 1), .bool (decide (goodS xs tol))]) ∧ Below w.heap.size w w' := by
  have b1 := below_alloc (Below.refl w.heap.size w) (.cells #[.int .i64 tol, .slice A n c, .int .i64 st, vu] 92)
  have H1 := Aside0.mk (And.intro b1 (And.intro (Blk.new w [.int .i64 tol, .slice A n c, .int .i64 st, vu] 92) (Kd.C_below h b1)))
  have HC := Aside0.mk (And.intro hn (And.intro hok hm))
  have HRW := Aside0.mk (fun W (i : Nat) => rwool_any W (rdQ_ok hok i))
  have HBD := Aside0.mk (fun i j => prod_bd (woolS_bd (rdQ_ok hok i)).1 (woolS_bd (rdQ_ok hok i)).2 (show 0 ≤ (rdQ xs j).raw by have := (rdQ_ok hok j).r1; omega) (rdQ_ok hok j).r2)
  have HRB := Aside0.mk (fun i j => raws_bd (rdQ_ok hok i) (rdQ_ok hok j))
  have HOR := Aside0.mk (rorder_any (w.alloc (.cells #[.int .i64 tol, .slice A n c, .int .i64 st, vu] 92)) A n c xs tol st vu hn (Kd.C_below h b1) hok (by omega))
  have q1 := Blk.new w [.int .i64 tol, .slice A n c, .int .i64 st, vu] 92
  have s0 := q1.at_ (i := 0) rfl
  have s1 := q1.at_ (i := 1) rfl
  have s2 := q1.at_ (i := 2) rfl
  have s3 := q1.at_ (i := 3) rfl
  have hn1 : n ≤ 2 * m := by omega
  have hn2 : 2 * m ≤ n := by omega
  have hdv : (n : Int) / 2 = m := by omega
  have hdt : Int.tdiv (n : Int) 2 = m := by rw [Int.tdiv_eq_ediv_of_nonneg (by omega)]; exact hdv
  obtain ⟨ht1, ht2⟩ := ht
  obtain ⟨ad, hadA⟩ : ∃ ad, A = some ad := by
    obtain ⟨ad, e, _⟩ := at_Q h 0 (by omega)
    exact ⟨ad, e⟩
  subst hadA
  obtain ⟨GB, hGB⟩ : ∃ z, z = decide (goodS xs tol) := ⟨_, rfl⟩
  obtain ⟨WS, hWS⟩ : ∃ z, z = winS xs := ⟨_, rfl⟩
  rw [← hGB, ← hWS]
  have HGB := Aside0.mk (And.intro hGB hWS)
  clear hn h hok b1 q1 hm hGB hWS
  go_enter Try.func93, Try.ntmps93
  go_upto_region 2 with ((with_reducible refine HOR.out.mono ?_); rintro e5 w5 ⟨v5, rfl, hr5, hb5⟩; have H5 := Aside0.mk (And.intro hr5 (And.intro (below_step H1.out.1 hb5) (And.intro (H1.out.2.1.below hb5) (Kd.C_below H1.out.2.2 hb5)))); clear hr5 hb5)
  clear s0 s1 s2 s3
  obtain ⟨bx, hbx⟩ : ∃ z, z = w.heap.size := ⟨_, rfl⟩
  have HBX : Aside0 (Blk w5 bx [.int .i64 tol, .slice (some ad) n c, .int .i64 st, vu] 92) := ⟨by rw [hbx]; exact H5.out.2.2.1⟩
  rw [← hbx]
  clear hbx
  obtain ⟨B, cB, hv5, hcB, hB⟩ := Kd.R_reads H5.out.1
  rw [ordS_length, HC.out.1] at hv5 hcB hB
  subst hv5
  obtain ⟨ado, rfl, _⟩ := Kd.at_int hB (0 : Int) (by omega) (by omega)
  have HO := Aside0.mk hB
  clear hB
  have s1 := HBX.out.at_ (i := 1) rfl
  go_upto_region 3 with fail
  clear s1 hdv hdt
  go_wp2_with fail
  go_loopw [7, 8, 9, 10, 11, 12, 13, 14] (fun v7 v8 v9 v10 _ _ _ _ wr => ∃ (a : Nat) (z x y : Int), v7 = .int .i64 z ∧ v8 = .int .i64 x ∧ v9 = .int .i64 y ∧ v10 = .int .i64 a ∧ a ≤ m ∧ (-1 ≤ z ∧ z ≤ 8) ∧ (-100000000 ≤ x ∧ x ≤ 100000000) ∧ (0 ≤ y ∧ y ≤ 100000000) ∧ Aside0 ((a = 0 ∧ z = -1) ∨ (0 < a ∧ WinR (winG xs) (winD xs) a z x y)) ∧ Aside0 (Below w5.heap.size w5 wr)) (fun _ _ _ v10 _ _ _ _ _ => m - (intOf v10).toNat)
  case atStart => exact ⟨0, -1, 0, 1, rfl, rfl, rfl, rfl, by omega, by omega, by omega, by omega, ⟨.inl ⟨rfl, rfl⟩⟩, ⟨Below.refl _ _⟩⟩
  case round =>
    obtain ⟨a, z, x, y, rfl, rfl, rfl, rfl, ha, ⟨hz1, hz2⟩, ⟨hx1, hx2⟩, ⟨hy1, hy2⟩, HWN, HW⟩ := hrel
    by_cases hlt2 : a < m
    · have hlti2 : (a : Int) + ((m : Int) + 1) ≤ n := by omega
      obtain ⟨P, hP, hPn⟩ := ordS_at xs (i := a) (by rw [HC.out.1]; omega)
      obtain ⟨Q, hQ, hQn⟩ := ordS_at xs (i := a + m) (by rw [HC.out.1]; omega)
      have hmm : xs.length / 2 = m := by rw [HC.out.1]; have := HC.out.2.2; omega
      have hG : winG xs a = woolS (rdQ xs Q) * (rdQ xs P).raw - woolS (rdQ xs P) * (rdQ xs Q).raw := by unfold winG; rw [hmm, hP, hQ]; rfl
      have hD : winD xs a = (rdQ xs P).raw * (rdQ xs Q).raw := by unfold winD; rw [hmm, hP, hQ]; rfl
      have hC5 := Kd.C_below HO.out HW.out
      obtain ⟨ad1, e1, o1⟩ := Kd.at_int hC5 (a : Int) (by omega) (by omega)
      cases e1
      obtain ⟨ad1, e1, o2⟩ := Kd.at_int hC5 ((a + m : Nat) : Int) (by omega) (by omega)
      cases e1
      rw [Int.toNat_natCast, show rd (ordS xs) (a : Int) = (P : Int) by unfold rd; rw [Int.toNat_natCast]; exact hP] at o1
      rw [Int.toNat_natCast, show rd (ordS xs) ((a + m : Nat) : Int) = (Q : Int) by unfold rd; rw [Int.toNat_natCast]; exact hQ] at o2
      have s1 := (HBX.out.below HW.out).at_ (i := 1) rfl
      rw [HC.out.1] at hPn hQn
      obtain ⟨ad1, e1, m0, m1, m2, m3, m4⟩ := at_Q (Kd.C_below H5.out.2.2.2 HW.out) P hPn
      cases e1
      obtain ⟨ad1, e1, k0, k1, k2, k3, k4⟩ := at_Q (Kd.C_below H5.out.2.2.2 HW.out) Q hQn
      cases e1
      have p1 := HBD.out Q P
      have p2 := HBD.out P Q
      have p3 := HRB.out P Q
      have HWP := Aside0.mk (fun W => HRW.out W P)
      have HWQ := Aside0.mk (fun W => HRW.out W Q)
      obtain ⟨wp, hwp⟩ : ∃ z, z = woolS (rdQ xs P) := ⟨_, rfl⟩
      obtain ⟨wq, hwq⟩ : ∃ z, z = woolS (rdQ xs Q) := ⟨_, rfl⟩
      rw [← hwp] at hG p2 HWP
      rw [← hwq] at hG p1 HWQ
      generalize rdQ xs P = fp at m0 m1 m2 m3 m4 hG hD p1 p2 p3 HWP hwp
      generalize rdQ xs Q = fq at k0 k1 k2 k3 k4 hG hD p1 p2 p3 HWQ hwq
      obtain ⟨pr, pd, pa, pg, pv⟩ := fp
      obtain ⟨qr, qd, qa, qg, qv⟩ := fq
      dsimp only at m0 m1 m2 m3 m4 k0 k1 k2 k3 k4 hG hD p1 p2 p3 HWP HWQ
      have HGD := Aside0.mk (And.intro hG hD)
      have hPi : (P : Int) < n := by omega
      have hQi : (Q : Int) < n := by omega
      have k3' : (0 : Int) ≤ (a : Int) + (m : Int) := by omega
      have k4' : (a : Int) + (m : Int) < n := by omega
      have k5' : ((a : Int) + (m : Int)).toNat = a + m := by omega
      have k6' : (a : Int) < n := by omega
      have k7' : a < n := by omega
      have k8' : a + m < n := by omega
      have HS1 := Aside0.mk (fun (W : World) (hW : Below wr.heap.size wr W) => (⟨⟨hW⟩, cell_keep hW s1, cell_keep hW o1, cell_keep hW o2, cell_keep hW m0, cell_keep hW m1, cell_keep hW m2, cell_keep hW m3, cell_keep hW m4, cell_keep hW k0, cell_keep hW k1, cell_keep hW k2, cell_keep hW k3, cell_keep hW k4⟩ : Aside0 (Below wr.heap.size wr W) ∧ W.cell? ⟨bx, 1, none⟩ = some (.slice (some ad) n c) ∧ W.cell? (ado.add a) = some (.int .i64 P) ∧ W.cell? (ado.add (a + m)) = some (.int .i64 Q) ∧ W.cell? (ad.add (P * 5)) = some (.int .i64 pr) ∧ W.cell? ⟨(ad.add (P * 5)).block, (ad.add (P * 5)).off + 1, none⟩ = some (.int .i64 pd) ∧ W.cell? ⟨(ad.add (P * 5)).block, (ad.add (P * 5)).off + 2, none⟩ = some (.int .i64 pa) ∧ W.cell? ⟨(ad.add (P * 5)).block, (ad.add (P * 5)).off + 3, none⟩ = some (.int .i64 pg) ∧ W.cell? ⟨(ad.add (P * 5)).block, (ad.add (P * 5)).off + 4, none⟩ = some (.int .i64 pv) ∧ W.cell? (ad.add (Q * 5)) = some (.int .i64 qr) ∧ W.cell? ⟨(ad.add (Q * 5)).block, (ad.add (Q * 5)).off + 1, none⟩ = some (.int .i64 qd) ∧ W.cell? ⟨(ad.add (Q * 5)).block, (ad.add (Q * 5)).off + 2, none⟩ = some (.int .i64 qa) ∧ W.cell? ⟨(ad.add (Q * 5)).block, (ad.add (Q * 5)).off + 3, none⟩ = some (.int .i64 qg) ∧ W.cell? ⟨(ad.add (Q * 5)).block, (ad.add (Q * 5)).off + 4, none⟩ = some (.int .i64 qv)))
      clear hG hD hwp hwq hP hQ hC5 hmm s1 o1 o2 m0 m1 m2 m3 m4 k0 k1 k2 k3 k4
      obtain ⟨p1a, p1b⟩ := p1
      obtain ⟨p2a, p2b⟩ := p2
      obtain ⟨p3a, p3b⟩ := p3
      go_upto_region 7 with fail
      go_cut [11, 12] from 30 to 48 (fun a b w3 => ∃ p q : Nat, a = .pointer (some ⟨p, 0, none⟩) ∧ b = .pointer (some ⟨q, 0, none⟩) ∧ Aside0 (w3.heap[p]? = some (.cells #[.int .i64 pr, .int .i64 pd, .int .i64 pa, .int .i64 pg, .int .i64 pv] 55 (0, 0)) ∧ w3.heap[q]? = some (.cells #[.int .i64 qr, .int .i64 qd, .int .i64 qa, .int .i64 qg, .int .i64 qv] 55 (0, 0)) ∧ Below wr.heap.size wr w3))
      case first =>
        clear p1a p1b p2a p2b p3a p3b hz1 hz2 hx1 hx2 hy1 hy2 ht1 ht2 HRW HBD HRB HOR HWP HWQ HGD HWN HGB h1 hcB
        have k1' : IntKind.i64.wrap ((a : Int) + ((m : Int) + 1)) = (a : Int) + ((m : Int) + 1) := IntWalk.i64_in _ (by omega)
        have k2' : IntKind.i64.wrap ((a : Int) + ((m : Int) + 1) - 1) = (a : Int) + (m : Int) := by rw [IntWalk.i64_in _ (by omega)]; omega
        go_region_held3 (fun W => Aside0 (Below wr.heap.size wr W) ∧ W.cell? ⟨bx, 1, none⟩ = some (.slice (some ad) n c) ∧ W.cell? (ado.add a) = some (.int .i64 P) ∧ W.cell? (ado.add (a + m)) = some (.int .i64 Q) ∧ W.cell? (ad.add (P * 5)) = some (.int .i64 pr) ∧ W.cell? ⟨(ad.add (P * 5)).block, (ad.add (P * 5)).off + 1, none⟩ = some (.int .i64 pd) ∧ W.cell? ⟨(ad.add (P * 5)).block, (ad.add (P * 5)).off + 2, none⟩ = some (.int .i64 pa) ∧ W.cell? ⟨(ad.add (P * 5)).block, (ad.add (P * 5)).off + 3, none⟩ = some (.int .i64 pg) ∧ W.cell? ⟨(ad.add (P * 5)).block, (ad.add (P * 5)).off + 4, none⟩ = some (.int .i64 pv) ∧ W.cell? (ad.add (Q * 5)) = some (.int .i64 qr) ∧ W.cell? ⟨(ad.add (Q * 5)).block, (ad.add (Q * 5)).off + 1, none⟩ = some (.int .i64 qd) ∧ W.cell? ⟨(ad.add (Q * 5)).block, (ad.add (Q * 5)).off + 2, none⟩ = some (.int .i64 qa) ∧ W.cell? ⟨(ad.add (Q * 5)).block, (ad.add (Q * 5)).off + 3, none⟩ = some (.int .i64 qg) ∧ W.cell? ⟨(ad.add (Q * 5)).block, (ad.add (Q * 5)).off + 4, none⟩ = some (.int .i64 qv))
          ((refine HS1.out _ ?_; repeat (with_reducible (first | exact Below.refl _ _ | refine below_drew ?_ | refine below_alloc ?_ _ | refine Below.setCell ?_ ?_ _ | exact Nat.le_refl _))))
          (fail)
        all_goals go_wp2_with fail
        all_goals go_meet
        all_goals (case rel => exact ⟨_, _, rfl, rfl, ⟨by first | exact h2_0 .. | exact h2_1 .., by first | exact h2_0 .. | exact h2_1 .., h2_b ..⟩⟩)
      case rest =>
      obtain ⟨p, q, rfl, rfl, ⟨hp, hq, hbw⟩⟩ := hcut
      have HPQ := Aside0.mk (And.intro (blk5 hp) (And.intro (blk5 hq) hbw))
      clear hp hq hbw k5'
      have k1' : IntKind.i64.wrap (wq * pr) = wq * pr := IntWalk.i64_in _ (by omega)
      have k2' : IntKind.i64.wrap (wp * qr) = wp * qr := IntWalk.i64_in _ (by omega)
      have k3b : IntKind.i64.wrap (wq * pr - wp * qr) = wq * pr - wp * qr := IntWalk.i64_in _ (by omega)
      have k4b : IntKind.i64.wrap (pr * qr) = pr * qr := IntWalk.i64_in _ (by omega)
      have HS0 := Aside0.mk (fun (W : World) (hW : Below wc.heap.size wc W) => (⟨⟨hW⟩, (HPQ.out.1.below hW).at_ (i := 0) rfl, (HPQ.out.1.below hW).at_ (i := 1) rfl, (HPQ.out.1.below hW).at_ (i := 2) rfl, (HPQ.out.1.below hW).at_ (i := 3) rfl, (HPQ.out.1.below hW).at_ (i := 4) rfl, (HPQ.out.2.1.below hW).at_ (i := 0) rfl, (HPQ.out.2.1.below hW).at_ (i := 1) rfl, (HPQ.out.2.1.below hW).at_ (i := 2) rfl, (HPQ.out.2.1.below hW).at_ (i := 3) rfl, (HPQ.out.2.1.below hW).at_ (i := 4) rfl⟩ : Aside0 (Below wc.heap.size wc W) ∧ W.cell? ⟨p, 0, none⟩ = some (.int .i64 pr) ∧ W.cell? ⟨p, 1, none⟩ = some (.int .i64 pd) ∧ W.cell? ⟨p, 2, none⟩ = some (.int .i64 pa) ∧ W.cell? ⟨p, 3, none⟩ = some (.int .i64 pg) ∧ W.cell? ⟨p, 4, none⟩ = some (.int .i64 pv) ∧ W.cell? ⟨q, 0, none⟩ = some (.int .i64 qr) ∧ W.cell? ⟨q, 1, none⟩ = some (.int .i64 qd) ∧ W.cell? ⟨q, 2, none⟩ = some (.int .i64 qa) ∧ W.cell? ⟨q, 3, none⟩ = some (.int .i64 qg) ∧ W.cell? ⟨q, 4, none⟩ = some (.int .i64 qv)))
      go_upto_region 8 with fail
      go_region_held3 (fun W => Aside0 (Below wc.heap.size wc W) ∧ W.cell? ⟨p, 0, none⟩ = some (.int .i64 pr) ∧ W.cell? ⟨p, 1, none⟩ = some (.int .i64 pd) ∧ W.cell? ⟨p, 2, none⟩ = some (.int .i64 pa) ∧ W.cell? ⟨p, 3, none⟩ = some (.int .i64 pg) ∧ W.cell? ⟨p, 4, none⟩ = some (.int .i64 pv) ∧ W.cell? ⟨q, 0, none⟩ = some (.int .i64 qr) ∧ W.cell? ⟨q, 1, none⟩ = some (.int .i64 qd) ∧ W.cell? ⟨q, 2, none⟩ = some (.int .i64 qa) ∧ W.cell? ⟨q, 3, none⟩ = some (.int .i64 qg) ∧ W.cell? ⟨q, 4, none⟩ = some (.int .i64 qv))
        ((refine HS0.out _ ?_; repeat (with_reducible (first | exact Below.refl _ _ | exact HB7.out | exact HB8.out | refine below_drew ?_))))
        (first
          | ((with_reducible refine (HWP.out _).mono ?_); rintro e7 w7 ⟨rfl, hb7⟩; have HB7 := Aside0.mk (below_step (hbT (by assumption)) hb7); clear hb7)
          | ((with_reducible refine (HWQ.out _).mono ?_); rintro e8 w8 ⟨rfl, hb8⟩; have HB8 := Aside0.mk (below_step (hbT (by assumption)) hb8); clear hb8))
      have HB9 := Aside0.mk (below_step HW.out (below_step HPQ.out.2.2 HB7.out))
      clear k1' k2' k3b k4b
      have hGb : -100000000 ≤ wq * pr - wp * qr ∧ wq * pr - wp * qr ≤ 100000000 := by omega
      obtain ⟨G, hG'⟩ : ∃ z, z = wq * pr - wp * qr := ⟨_, rfl⟩
      obtain ⟨D, hD'⟩ : ∃ z, z = pr * qr := ⟨_, rfl⟩
      rw [← hG'] at HGD hGb
      rw [← hD'] at HGD p3a p3b
      rw [← hG', ← hD']
      clear hG' hD' p1a p1b p2a p2b
      obtain ⟨hG1, hG2⟩ := hGb
      have p1 := mulS_bd hG1 hG2 hy1 hy2
      have p2 := mulS_bd hx1 hx2 (by omega : 0 ≤ D) p3b
      by_cases ha0 : a = 0
      · have hz0 : z = -1 := by
          rcases HWN.out with ⟨_, h⟩ | ⟨h, _⟩
          · exact h
          · omega
        have dz : decide (z < 0) = true := decide_eq_true (by omega)
        have HNX : Aside0 ((a + 1 = 0 ∧ (a : Int) = -1) ∨ (0 < a + 1 ∧ WinR (winG xs) (winD xs) (a + 1) a G D)) := ⟨.inr ⟨by omega, by
          rw [← HGD.out.1, ← HGD.out.2, ha0]
          exact .inr ⟨by omega, rfl, rfl, rfl⟩⟩⟩
        clear ha0 hz0
        go_wp2_with fail
        go_roundw
        case rel => exact ⟨a + 1, a, G, D, rfl, rfl, rfl, by go_num, by omega, by omega, by omega, by omega, HNX, HB9⟩
        case measure => simp [intOf]; omega
      · have hwn : WinR (winG xs) (winD xs) a z x y := by
          rcases HWN.out with ⟨h, _⟩ | ⟨_, h⟩
          · omega
          · exact h
        have hz0 : 0 ≤ z := by
          rcases hwn with ⟨h, _⟩ | ⟨_, h, _⟩
          · omega
          · rw [h]; omega
        have HWA := Aside0.mk hwn
        have dz : decide (z < 0) = false := decide_eq_false (by omega)
        clear hwn
        by_cases hl : G * y < x * D
        · have dl : decide (G * y < x * D) = true := decide_eq_true hl
          have HNX : Aside0 ((a + 1 = 0 ∧ (a : Int) = -1) ∨ (0 < a + 1 ∧ WinR (winG xs) (winD xs) (a + 1) a G D)) := ⟨.inr ⟨by omega, by
            rw [← HGD.out.1, ← HGD.out.2]
            exact HWA.out.less (by omega) (by rw [HGD.out.1, HGD.out.2]; exact hl)⟩⟩
          clear ha0
          go_wp2_with fail
          go_roundw
          case rel => exact ⟨a + 1, a, G, D, rfl, rfl, rfl, by go_num, by omega, by omega, by omega, by omega, HNX, HB9⟩
          case measure => simp [intOf]; omega
        · have dl : decide (G * y < x * D) = false := decide_eq_false hl
          have HNX : Aside0 ((a + 1 = 0 ∧ z = -1) ∨ (0 < a + 1 ∧ WinR (winG xs) (winD xs) (a + 1) z x y)) := ⟨.inr ⟨by omega, HWA.out.keep (by omega) (by rw [HGD.out.1, HGD.out.2]; exact hl)⟩⟩
          clear ha0
          go_wp2_with fail
          go_roundw
          case rel => exact ⟨a + 1, z, x, y, rfl, rfl, rfl, by go_num, by omega, by omega, by omega, by omega, HNX, HB9⟩
          case measure => simp [intOf]; omega
    · have hlti2 : ¬ (a : Int) + ((m : Int) + 1) ≤ n := by omega
      have hwn : WinR (winG xs) (winD xs) a z x y := by
        rcases HWN.out with ⟨h, _⟩ | ⟨_, h⟩
        · omega
        · exact h
      have hws : z = winS xs ∧ x = winG xs (winS xs) ∧ y = winD xs (winS xs) := by
        have e : winB (winG xs) (winD xs) (a - 1) = winS xs := by
          unfold winS
          rw [HC.out.1, show a - 1 = n / 2 - 1 by have := HC.out.2.2; omega]
        rcases hwn with ⟨h, _⟩ | ⟨_, h2, h3, h4⟩
        · omega
        · rw [e] at h2 h3 h4
          exact ⟨h2, h3, h4⟩
      have HZW : Aside0 (z = WS ∧ GB = decide (x * 10000 ≤ tol * y)) := ⟨by rw [HGB.out.2]; exact hws.1, by
        rw [HGB.out.1]
        unfold goodS
        rw [hws.2.1, hws.2.2]⟩
      have pt := mulT_bd ht1 ht2 hy1 hy2
      have t0 := (HBX.out.below HW.out).at_ (i := 0) rfl
      clear hws hwn
      have k1' : IntKind.i64.wrap (x * 10000) = x * 10000 := IntWalk.i64_in _ (by omega)
      have k2' : IntKind.i64.wrap (tol * y) = tol * y := IntWalk.i64_in _ (by omega)
      go_wp2_with fail
      go_quiet (fail)
      clear k1' k2'
      go_wp2_with fail
      refine bodyPost_ret (v := .tuple #[.int .i64 z, .int .i64 ((m : Int) + 1), .bool (decide (x * 10000 ≤ tol * y))]) (by simp [results, Try.results93, go_sem]) rfl ?_
      exact ⟨by rw [HZW.out.1, HZW.out.2], below_step H5.out.2.1 (below_step HW.out (bdN _ _))⟩
end Go.Proofs.Ythkfahkkcjagdaa
namespace Go.Proofs.Ythkfahkkcjagdaa
open Go.RowKit Go.Proofs.YthkfahkkcjagdaaW.PrintWords Go.Proofs.YthkfahkkcjagdaaW.PrintMore Go.Proofs.YthkfahkkcjagdaaW.PrintLast
set_option linter.unusedSimpArgs false
set_option linter.unusedVariables false

theorem rnewT_any (w : World) (tol : Int) (h : 0 ≤ tol ∧ tol ≤ 10000) : Calls Try.prog 56 #[.int .i64 tol] w fun e w' => e = .returned (.tuple #[.agg #[.int .i64 tol, .slice none 0 0, .int .i64 0, .slice none 0 0], .int .i64 0]) ∧ Below w.heap.size w w' := by
  obtain ⟨h1, h2⟩ := h
  have d1 : decide (tol < 0) = false := decide_eq_false (by omega)
  have d2 : decide (tol > 10000) = false := decide_eq_false (by omega)
  have q := Blk.new w [.int .i64 0, .slice none 0 0, .int .i64 0, .slice none 0 0] 92
  have HB := Aside0.mk (below_alloc (Below.refl w.heap.size w) (.cells #[.int .i64 0, .slice none 0 0, .int .i64 0, .slice none 0 0] 92))
  have HQ := Aside0.mk q
  have c0 := q.at_ (i := 0) rfl
  have c1 := q.at_ (i := 1) rfl
  have c2 := q.at_ (i := 2) rfl
  have c3 := q.at_ (i := 3) rfl
  have cf := q.free
  clear q
  go_enter Try.func56, Try.ntmps56
  go_wp2_with fail
  refine bodyPost_ret (v := .tuple #[.agg #[.int .i64 tol, .slice none 0 0, .int .i64 0, .slice none 0 0], .int .i64 0]) (by simp [results, Try.results56, go_sem]) rfl ?_
  exact ⟨rfl, below_alloc (Below.refl _ _) _⟩
theorem rneedT_any (w : World) (A : Option Addr) (n c : Nat) (tol st : Int) (E : Option Addr) (k d : Nat) (hn : n ≤ 8) : Calls Try.prog 58 #[.agg #[.int .i64 tol, .slice A n c, .int .i64 st, .slice E k d]] w fun e w' => e = .returned (.int .i64 (needS st n)) ∧ Below w.heap.size w w' := by
  have q := Blk.new w [.int .i64 tol, .slice A n c, .int .i64 st, .slice E k d] 92
  have HB := Aside0.mk (below_alloc (Below.refl w.heap.size w) (.cells #[.int .i64 tol, .slice A n c, .int .i64 st, .slice E k d] 92))
  have c0 := q.at_ (i := 0) rfl
  have c1 := q.at_ (i := 1) rfl
  have c2 := q.at_ (i := 2) rfl
  have c3 := q.at_ (i := 3) rfl
  clear q
  by_cases hst : st = 0
  · have HN : Aside0 (needS st n = 2 - (n : Int) % 2) := ⟨by unfold needS; rw [if_pos hst]; omega⟩
    have d0 : (st != 0) = false := by simpa using hst
    clear hst
    go_enter Try.func58, Try.ntmps58
    go_wp2_with fail
    go_ret
    exact ⟨ret_int (by rw [HN.out]), HB.out⟩
  · have HN : Aside0 (needS st n = 0) := ⟨by unfold needS; rw [if_neg hst]⟩
    have d0 : (st != 0) = true := by simpa using hst
    clear hst
    go_enter Try.func58, Try.ntmps58
    go_wp2_with fail
    go_ret
    exact ⟨ret_int HN.out.symm, HB.out⟩
structure RF (w w3 : World) (b0 b1 b2 : Nat) (A : Option Addr) (n c : Nat) (tol st : Int) (E : Option Addr) (k d : Nat) (s : Sb) : Prop where
  e0 : b0 = w.heap.size
  e1 : b1 = w.heap.size + 1
  e2 : b2 = w.heap.size + 1 + 1
  t : Blk w3 b0 [.int .i64 tol, .slice A n c, .int .i64 st, .slice E k d] 92
  s : Blk w3 b1 [.int .i64 s.raw, .int .i64 s.dry, .int .i64 s.ash, .int .i64 s.gre, .int .i64 s.veg] 55
  z : Blk w3 b2 [.int .i64 0, .slice none 0 0, .int .i64 0, .slice none 0 0] 92
  h : Below w.heap.size w w3
theorem RF.new (w : World) (A : Option Addr) (n c : Nat) (tol st : Int) (E : Option Addr) (k d : Nat) (s : Sb) : RF w (((w.alloc (.cells #[.int .i64 tol, .slice A n c, .int .i64 st, .slice E k d] 92)).alloc (.cells #[.int .i64 s.raw, .int .i64 s.dry, .int .i64 s.ash, .int .i64 s.gre, .int .i64 s.veg] 55)).alloc (.cells #[.int .i64 0, .slice none 0 0, .int .i64 0, .slice none 0 0] 92)) w.heap.size (w.heap.size + 1) (w.heap.size + 1 + 1) A n c tol st E k d s where
  e0 := rfl
  e1 := rfl
  e2 := rfl
  t := ((Blk.new w [.int .i64 tol, .slice A n c, .int .i64 st, .slice E k d] 92).alloc _).alloc _
  s := by
    have h := (Blk.new (w.alloc (.cells #[.int .i64 tol, .slice A n c, .int .i64 st, .slice E k d] 92)) [.int .i64 s.raw, .int .i64 s.dry, .int .i64 s.ash, .int .i64 s.gre, .int .i64 s.veg] 55).alloc (.cells #[.int .i64 0, .slice none 0 0, .int .i64 0, .slice none 0 0] 92)
    rwa [show (w.alloc (.cells #[.int .i64 tol, .slice A n c, .int .i64 st, .slice E k d] 92)).heap.size = w.heap.size + 1 by simp] at h
  z := by
    have h := Blk.new ((w.alloc (.cells #[.int .i64 tol, .slice A n c, .int .i64 st, .slice E k d] 92)).alloc (.cells #[.int .i64 s.raw, .int .i64 s.dry, .int .i64 s.ash, .int .i64 s.gre, .int .i64 s.veg] 55)) [.int .i64 0, .slice none 0 0, .int .i64 0, .slice none 0 0] 92
    rwa [show ((w.alloc (.cells #[.int .i64 tol, .slice A n c, .int .i64 st, .slice E k d] 92)).alloc (.cells #[.int .i64 s.raw, .int .i64 s.dry, .int .i64 s.ash, .int .i64 s.gre, .int .i64 s.veg] 55)).heap.size = w.heap.size + 1 + 1 by simp] at h
  h := below_alloc (below_alloc (below_alloc (Below.refl _ _) _) _) _
theorem rfeedA_any (w : World) (A : Option Addr) (n c : Nat) (tol st : Int) (E : Option Addr) (k d : Nat) (hst : st ≠ 0) (s : Sb) :
    Calls Try.prog 57 #[.agg #[.int .i64 tol, .slice A n c, .int .i64 st, .slice E k d], .agg #[.int .i64 s.raw, .int .i64 s.dry, .int .i64 s.ash, .int .i64 s.gre, .int .i64 s.veg]] w fun e w' => e = .returned (.tuple #[.agg #[.int .i64 tol, .slice A n c, .int .i64 st, .slice E k d], .int .i64 10]) ∧ Below w.heap.size w w' := by
  obtain ⟨w3, hw3⟩ : ∃ z, z = ((w.alloc (.cells #[.int .i64 tol, .slice A n c, .int .i64 st, .slice E k d] 92)).alloc (.cells #[.int .i64 s.raw, .int .i64 s.dry, .int .i64 s.ash, .int .i64 s.gre, .int .i64 s.veg] 55)).alloc (.cells #[.int .i64 0, .slice none 0 0, .int .i64 0, .slice none 0 0] 92) := ⟨_, rfl⟩
  have HRF := Aside0.mk (RF.new w A n c tol st E k d s)
  rw [← hw3] at HRF
  have HW := Aside0.mk hw3
  have d0 : (st != 0) = true := by simpa using hst
  clear hst hw3
  go_enter Try.func57, Try.ntmps57
  go_upto_region 1 with fail
  rw [← HW.out]
  obtain ⟨b0, hb0⟩ : ∃ z, z = w.heap.size := ⟨_, rfl⟩
  obtain ⟨b1, hb1⟩ : ∃ z, z = b0 + 1 := ⟨_, rfl⟩
  obtain ⟨b2, hb2⟩ : ∃ z, z = b1 + 1 := ⟨_, rfl⟩
  rw [← hb0, ← hb1, ← hb2] at HRF ⊢
  have HBB : Aside0 (w.heap.size ≤ b2) := ⟨by omega⟩
  clear hb0 hb1 hb2 HW
  have s0 := HRF.out.t.at_ (i := 0) rfl
  have s1 := HRF.out.t.at_ (i := 1) rfl
  have s2 := HRF.out.t.at_ (i := 2) rfl
  have s3 := HRF.out.t.at_ (i := 3) rfl
  have z0 := HRF.out.z.at_ (i := 0) rfl
  have z1 := HRF.out.z.at_ (i := 1) rfl
  have z2 := HRF.out.z.at_ (i := 2) rfl
  have z3 := HRF.out.z.at_ (i := 3) rfl
  have zf := HRF.out.z.free
  go_wp2_with fail
  have hF := (((HRF.out.z.set 0 (.int .i64 tol)).set 1 (.slice A n c)).set 2 (.int .i64 st)).set 3 (.slice E k d)
  have r0 := hF.at_ (i := 0) rfl
  have r1 := hF.at_ (i := 1) rfl
  have r2 := hF.at_ (i := 2) rfl
  have r3 := hF.at_ (i := 3) rfl
  refine bodyPost_ret (v := .tuple #[.agg #[.int .i64 tol, .slice A n c, .int .i64 st, .slice E k d], .int .i64 10]) (by simp [results, Try.results57, go_sem, r0, r1, r2, r3]) rfl ?_
  exact ⟨rfl, Below.setCell (Below.setCell (Below.setCell (Below.setCell (HRF.out.h) (p := ⟨b2, 0, none⟩) HBB.out _) (p := ⟨b2, 1, none⟩) HBB.out _) (p := ⟨b2, 2, none⟩) HBB.out _) (p := ⟨b2, 3, none⟩) HBB.out _⟩
/-- An invalid subsample is refused. -/
theorem rfeedB_any (w : World) (A : Option Addr) (n c : Nat) (tol : Int) (E : Option Addr) (k d : Nat) {s : Sb} (hs : ¬ SbOK s) :
    Calls Try.prog 57 #[.agg #[.int .i64 tol, .slice A n c, .int .i64 0, .slice E k d], .agg #[.int .i64 s.raw, .int .i64 s.dry, .int .i64 s.ash, .int .i64 s.gre, .int .i64 s.veg]] w fun e w' => e = .returned (.tuple #[.agg #[.int .i64 tol, .slice A n c, .int .i64 0, .slice E k d], .int .i64 2]) ∧ Below w.heap.size w w' := by
  obtain ⟨w3, hw3⟩ : ∃ z, z = ((w.alloc (.cells #[.int .i64 tol, .slice A n c, .int .i64 0, .slice E k d] 92)).alloc (.cells #[.int .i64 s.raw, .int .i64 s.dry, .int .i64 s.ash, .int .i64 s.gre, .int .i64 s.veg] 55)).alloc (.cells #[.int .i64 0, .slice none 0 0, .int .i64 0, .slice none 0 0] 92) := ⟨_, rfl⟩
  have HRF := Aside0.mk (RF.new w A n c tol 0 E k d s)
  rw [← hw3] at HRF
  have HW := Aside0.mk hw3
  have HSU := Aside0.mk (fun W => valid_any W s)
  rw [sbB_no hs] at HSU
  clear hs hw3
  go_enter Try.func57, Try.ntmps57
  go_upto_region 1 with fail
  rw [← HW.out]
  obtain ⟨b0, hb0⟩ : ∃ z, z = w.heap.size := ⟨_, rfl⟩
  obtain ⟨b1, hb1⟩ : ∃ z, z = b0 + 1 := ⟨_, rfl⟩
  obtain ⟨b2, hb2⟩ : ∃ z, z = b1 + 1 := ⟨_, rfl⟩
  rw [← hb0, ← hb1, ← hb2] at HRF ⊢
  have HBB : Aside0 (w.heap.size ≤ b2) := ⟨by omega⟩
  clear hb0 hb1 hb2 HW
  have s0 := HRF.out.t.at_ (i := 0) rfl
  have s1 := HRF.out.t.at_ (i := 1) rfl
  have s2 := HRF.out.t.at_ (i := 2) rfl
  have s3 := HRF.out.t.at_ (i := 3) rfl
  have z0 := HRF.out.z.at_ (i := 0) rfl
  have z1 := HRF.out.z.at_ (i := 1) rfl
  have z2 := HRF.out.z.at_ (i := 2) rfl
  have z3 := HRF.out.z.at_ (i := 3) rfl
  have zf := HRF.out.z.free
  have c0 := HRF.out.s.at_ (i := 0) rfl
  have c1 := HRF.out.s.at_ (i := 1) rfl
  have c2 := HRF.out.s.at_ (i := 2) rfl
  have c3 := HRF.out.s.at_ (i := 3) rfl
  have c4 := HRF.out.s.at_ (i := 4) rfl
  go_upto_region 4 with ((with_reducible refine (HSU.out _).mono ?_); rintro e5 w5 ⟨rfl, hb5⟩; have HB5 := Aside0.mk hb5; clear hb5)
  clear c0 c1 c2 c3 c4 s0 s1 s2 s3 z0 z1 z2 z3 zf
  have hq := HRF.out.t.below HB5.out
  have hz := HRF.out.z.below HB5.out
  have HZ := Aside0.mk hz
  have HB := Aside0.mk (below_step HRF.out.h HB5.out)
  have s0 := hq.at_ (i := 0) rfl
  have s1 := hq.at_ (i := 1) rfl
  have s2 := hq.at_ (i := 2) rfl
  have s3 := hq.at_ (i := 3) rfl
  have z0 := hz.at_ (i := 0) rfl
  have z1 := hz.at_ (i := 1) rfl
  have z2 := hz.at_ (i := 2) rfl
  have z3 := hz.at_ (i := 3) rfl
  have zf := hz.free
  clear hq hz
  go_wp2_with fail
  have hF := (((HZ.out.set 0 (.int .i64 tol)).set 1 (.slice A n c)).set 2 (.int .i64 0)).set 3 (.slice E k d)
  have r0 := hF.at_ (i := 0) rfl
  have r1 := hF.at_ (i := 1) rfl
  have r2 := hF.at_ (i := 2) rfl
  have r3 := hF.at_ (i := 3) rfl
  refine bodyPost_ret (v := .tuple #[.agg #[.int .i64 tol, .slice A n c, .int .i64 0, .slice E k d], .int .i64 2]) (by simp [results, Try.results57, go_sem, r0, r1, r2, r3]) rfl ?_
  exact ⟨rfl, Below.setCell (Below.setCell (Below.setCell (Below.setCell (HB.out) (p := ⟨b2, 0, none⟩) HBB.out _) (p := ⟨b2, 1, none⟩) HBB.out _) (p := ⟨b2, 2, none⟩) HBB.out _) (p := ⟨b2, 3, none⟩) HBB.out _⟩
end Go.Proofs.Ythkfahkkcjagdaa

/- What the reference's Cost answers, and the fleeces in memory of their own: their walks. -/
import Derived.Test.YthkfahkkcjagdaaRc5
import Derived.Deep.RegionWith
namespace Go.Proofs.Ythkfahkkcjagdaa
open Go.RowKit Go.Proofs.YthkfahkkcjagdaaW.PrintWords Go.Proofs.YthkfahkkcjagdaaW.PrintMore Go.Proofs.YthkfahkkcjagdaaW.PrintLast

theorem hbR {w2 W : World} {P : Prop} (h : Aside0 (Below w2.heap.size w2 W) ∧ P) : Below w2.heap.size w2 W := h.1.out
theorem blk8R {w : World} {b : Nat} (h : Blk w b [.int .u8 0, .int .u8 0, .int .u8 0, .int .u8 0, .slice none 0 0, .int .i64 0, .int .i64 0, .int .i64 0] 37) : (∀ i, w.frozen? ⟨b, i, none⟩ = false) ∧ w.cell? ⟨b, 0, none⟩ = some (.int .u8 0) ∧ w.cell? ⟨b, 1, none⟩ = some (.int .u8 0) ∧ w.cell? ⟨b, 2, none⟩ = some (.int .u8 0) ∧ w.cell? ⟨b, 3, none⟩ = some (.int .u8 0) ∧ w.cell? ⟨b, 4, none⟩ = some (.slice none 0 0) ∧ w.cell? ⟨b, 5, none⟩ = some (.int .i64 0) ∧ w.cell? ⟨b, 6, none⟩ = some (.int .i64 0) ∧ w.cell? ⟨b, 7, none⟩ = some (.int .i64 0) :=
  ⟨h.free, h.at_ (i := 0) rfl, h.at_ (i := 1) rfl, h.at_ (i := 2) rfl, h.at_ (i := 3) rfl, h.at_ (i := 4) rfl, h.at_ (i := 5) rfl, h.at_ (i := 6) rfl, h.at_ (i := 7) rfl⟩
theorem finN {w6 W : World} (h : Below w6.heap.size w6 W) (v0 v1 v2 v3 v4 v5 v6 v7 : Value) : Below w6.heap.size w6 (W.alloc (.cells #[v0, v1, v2, v3, v4, v5, v6, v7] 37)) ∧ (W.alloc (.cells #[v0, v1, v2, v3, v4, v5, v6, v7] 37)).cell? ⟨W.heap.size, 7, none⟩ = some v7 :=
  ⟨below_alloc h _, by rw [alloc_cell]; rfl⟩
theorem finS {N b : Nat} {w6 W : World} (h : Below N w6 W) (h7 : Blk W b [.int .u8 0, .int .u8 0, .int .u8 0, .int .u8 0, .slice none 0 0, .int .i64 0, .int .i64 0, .int .i64 0] 37) (hb : N ≤ b) (v0 v1 v2 v3 v4 v5 v6 v7 : Value) : Below N w6 ((((((((W.setCell ⟨b, 0, none⟩ v0).setCell ⟨b, 1, none⟩ v1).setCell ⟨b, 2, none⟩ v2).setCell ⟨b, 3, none⟩ v3).setCell ⟨b, 4, none⟩ v4).setCell ⟨b, 5, none⟩ v5).setCell ⟨b, 6, none⟩ v6).setCell ⟨b, 7, none⟩ v7) ∧ ((((((((W.setCell ⟨b, 0, none⟩ v0).setCell ⟨b, 1, none⟩ v1).setCell ⟨b, 2, none⟩ v2).setCell ⟨b, 3, none⟩ v3).setCell ⟨b, 4, none⟩ v4).setCell ⟨b, 5, none⟩ v5).setCell ⟨b, 6, none⟩ v6).setCell ⟨b, 7, none⟩ v7).cell? ⟨b, 7, none⟩ = some v7 :=
  ⟨by refine (Below.setCell (Below.setCell (Below.setCell (Below.setCell (Below.setCell (Below.setCell (Below.setCell (Below.setCell h ?_ _) ?_ _) ?_ _) ?_ _) ?_ _) ?_ _) ?_ _) ?_ _) <;> exact hb, ((((((((h7.set 0 v0).set 1 v1).set 2 v2).set 3 v3).set 4 v4).set 5 v5).set 6 v6).set 7 v7).at_ (i := 7) rfl⟩
set_option maxHeartbeats 8000000 in
set_option maxRecDepth 100000 in
theorem rcost_any (w : World) (A B : Option Addr) (n cf m cl : Nat) (fs : List Fl) (ls : List Int) (hn0 : fs.length = n) (h : kF.C w A n fs) (hk : KOK fs) (hm : (Kd.int .i64).C w B m ls) (l least p : Int) :
    Calls Try.prog 34 #[.slice A n cf, .agg #[.int .i64 l, .int .i64 least, .int .i64 p], .slice B m cl] w fun e w' => e = .returned (.tuple #[.int .i64 (costR fs l least p ls).1, .int .i64 (costR fs l least p ls).2]) ∧ Below w.heap.size w w' := by
  have b1 := below_alloc (Below.refl w.heap.size w) (.cells #[.int .i64 l, .int .i64 least, .int .i64 p] 24)
  have q1 := Blk.new w [.int .i64 l, .int .i64 least, .int .i64 p] 24
  have s0 := q1.at_ (i := 0) rfl
  have s1 := q1.at_ (i := 1) rfl
  have s2 := q1.at_ (i := 2) rfl
  have hl := errors_any _ A n cf fs hn0 (Kd.C_below h b1) l least p
  have HB := Aside0.mk (And.intro b1 (And.intro q1 (Kd.C_below h b1)))
  have HKK := Aside0.mk hk
  have HL := Aside0.mk hl
  by_cases hE : errE fs l least p = 0
  · have hR : costR fs l least p ls = costV (sF fs (ordF fs)) n l least p ls := by unfold costR; rw [if_pos hE, hn0]
    rw [hR]
    have hn := (errE_all hE).1
    rw [hn0] at hn
    have HSO := Aside0.mk (ordF_SOK (errE_all hE).2)
    obtain ⟨s, hs0⟩ : ∃ z, z = sF fs (ordF fs) := ⟨_, rfl⟩
    have HN := Aside0.mk hn0
    have HSS := Aside0.mk hs0
    have HE := Aside0.mk hE
    have hml := Kd.C_len hm
    have hmx := Kd.C_max hm
    rw [← hs0, hn0] at HSO
    rw [← hs0]
    have HM := Aside0.mk (Kd.C_below hm b1)
    have HML := Aside0.mk hml
    clear h hk b1 q1 hl hR hn0 hs0 hE hm
    by_cases h128 : (m : Int) > 128
    · have HV : Aside0 (costV s n l least p ls = (0, 3)) := ⟨if_pos (by omega)⟩
      rw [HV.out]
      clear hml
      go_enter Try.func34, Try.ntmps34
      go_wp2_with ((with_reducible refine HL.out.mono ?_); rintro e5 w5 ⟨rfl, hb5⟩; rw [HE.out]; have HB5 := Aside0.mk (below_step HB.out.1 hb5); clear hb5)
      refine bodyPost_ret (v := .tuple #[.int .i64 0, .int .i64 3]) (by simp [results, Try.results34, go_sem]) rfl ?_
      exact ⟨rfl, HB5.out⟩
    · have HV : Aside0 (costV s n l least p ls = if chkL n ls = some 0 then if l < ls.length then ((0 : Int), (13 : Int)) else match sumC s least p 0 ls with | none => (0, 13) | some v => (v, 0) else (0, 2)) := ⟨if_neg (by omega)⟩
      have hm8 : m ≤ 128 := by omega
      clear hml
      go_enter Try.func34, Try.ntmps34
      go_upto_region 7 with ((with_reducible refine HL.out.mono ?_); rintro e5 w5 ⟨rfl, hb5⟩; rw [HE.out]; have H5 := Aside0.mk (And.intro trivial (And.intro trivial (And.intro (below_step HB.out.1 hb5) (And.intro (HB.out.2.1.below hb5) (And.intro (Kd.C_below HM.out hb5) (Kd.C_below HB.out.2.2 hb5)))))); clear hb5)
      clear s0 s1 s2
      go_wp2_with fail
      go_loopw [9, 10] (fun v9 v10 wr => ∃ (j : Nat) (x : Int), v9 = .int .i64 x ∧ v10 = .int .i64 j ∧ j ≤ m ∧ (0 ≤ x ∧ x ≤ n) ∧ Aside0 (chkL x (ls.drop j) = chkL n ls) ∧ ∃ q, wr = w5.drewN q) (fun _ v10 _ => m - (intOf v10).toNat)
      case atStart => exact ⟨0, n, rfl, rfl, by omega, by omega, ⟨rfl⟩, 0, rfl⟩
      case round =>
        obtain ⟨j, x, rfl, rfl, hj, ⟨hx0, hx1⟩, HX, q, rfl⟩ := hrel
        by_cases hlt : j < m
        · have hlti : (j : Int) < m := by omega
          obtain ⟨ad, e1, g1⟩ := Kd.at_int H5.out.2.2.2.2.1 (j : Int) (by omega) hlti
          subst e1
          rw [Int.toNat_natCast] at g1
          have hdr := rd_drop ls (j := j) (by rw [HML.out]; exact hlt)
          obtain ⟨z, hz⟩ : ∃ z, z = rd ls j := ⟨_, rfl⟩
          rw [← hz] at g1 hdr
          have HDR := Aside0.mk hdr; clear hz hdr
          by_cases hz1 : z < 1
          · have d1 : decide (z < 1) = true := decide_eq_true hz1
            have HC : Aside0 (chkL n ls = none) := ⟨by rw [← HX.out, HDR.out, chkL, if_pos (.inl hz1)]⟩
            clear HX HDR
            go_wp2_with fail
            refine bodyPost_ret (v := .tuple #[.int .i64 0, .int .i64 2]) (by simp [results, Try.results34, go_sem]) rfl ?_
            refine ⟨?_, below_step H5.out.2.2.1 (bdN _ _)⟩
            rw [HV.out, if_neg (by rw [HC.out]; simp)]
          · have d1 : decide (z < 1) = false := decide_eq_false hz1
            by_cases hz2 : z > x
            · have d2 : decide (z > x) = true := decide_eq_true hz2
              have d3 : decide (x < z) = true := decide_eq_true hz2
              have HC : Aside0 (chkL n ls = none) := ⟨by rw [← HX.out, HDR.out, chkL, if_pos (.inr hz2)]⟩
              clear HX HDR
              go_wp2_with fail
              refine bodyPost_ret (v := .tuple #[.int .i64 0, .int .i64 2]) (by simp [results, Try.results34, go_sem]) rfl ?_
              refine ⟨?_, below_step H5.out.2.2.1 (bdN _ _)⟩
              rw [HV.out, if_neg (by rw [HC.out]; simp)]
            · have d2 : decide (z > x) = false := decide_eq_false hz2
              have d3 : decide (x < z) = false := decide_eq_false hz2
              have HC : Aside0 (chkL (x - z) (ls.drop (j + 1)) = chkL n ls) := ⟨by rw [← HX.out, HDR.out, chkL, if_neg (by omega)]⟩
              clear HX HDR
              go_wp2_with fail
              go_roundw
              case rel => exact ⟨j + 1, x - z, by go_num, by go_num, by omega, by omega, HC, q, rfl⟩
              case measure => simp [intOf]; omega
        · have hlti : ¬ (j : Int) < m := by omega
          have HC : Aside0 (chkL n ls = some x) := ⟨by
            rw [← HX.out, List.drop_of_length_le (by rw [HML.out]; omega)]
            rfl⟩
          clear HX
          by_cases hx : x = 0
          · subst hx
            have t0 := H5.out.2.2.2.1.at_ (i := 0) rfl
            by_cases hml : (m : Int) > l
            · have d1 : decide ((m : Int) > l) = true := decide_eq_true hml
              have d2 : decide (l < (m : Int)) = true := decide_eq_true hml
              go_wp2_with fail
              refine bodyPost_ret (v := .tuple #[.int .i64 0, .int .i64 13]) (by simp [results, Try.results34, go_sem]) rfl ?_
              refine ⟨?_, below_step H5.out.2.2.1 (bdN _ _)⟩
              rw [HV.out, if_pos HC.out, if_pos (by rw [HML.out]; omega)]
            · have d1 : decide ((m : Int) > l) = false := decide_eq_false hml
              have d2 : decide (l < (m : Int)) = false := decide_eq_false hml
              have HV2 : Aside0 (costV s n l least p ls = match sumC s least p 0 ls with | none => ((0 : Int), (13 : Int)) | some v => (v, 0)) := ⟨by rw [HV.out, if_pos HC.out, if_neg (by rw [HML.out]; omega)]⟩
              clear HV
              have hlti' := hlti
              have HMB := Aside0.mk (Kd.C_below H5.out.2.2.2.2.1 (bdN w5 q))
              have HOR := Aside0.mk (order_any (w5.drewN q) A n cf fs HN.out (Kd.C_below H5.out.2.2.2.2.2 (bdN w5 q)) HKK.out hn)
              have HSPB := Aside0.mk (H5.out.2.2.2.1.drewN q)
              have HBW := Aside0.mk (below_step H5.out.2.2.1 (bdN w5 q))
              have HFC := Aside0.mk (Kd.C_below H5.out.2.2.2.2.2 (bdN w5 q))
              go_upto_region 18 with ((with_reducible refine HOR.out.mono ?_); rintro e6 w6 ⟨v6, rfl, hr6, hb6⟩; have H6 := Aside0.mk (And.intro hr6 (And.intro (below_step HBW.out hb6) (And.intro (HSPB.out.below hb6) (And.intro (Kd.C_below HFC.out hb6) (Kd.C_below HMB.out hb6))))); clear hr6 hb6)
              clear t0
              obtain ⟨B6, cB, hv6, hcB, hB⟩ := Kd.R_reads H6.out.1
              rw [ordF_length, HN.out] at hv6 hcB hB
              subst hv6
              have hsp := errE_spec HE.out
              have HLN := Aside0.mk (fun (W : World) (hW : Below w6.heap.size w6 W) (i d : Nat) (hd : 0 < d) (hid : i + d ≤ n) (j : Int) (hj : j = i + d) => rline_any W A B6 n cf cB fs HN.out (Kd.C_below H6.out.2.2.2.1 hW) HKK.out (Kd.C_below hB hW) l least p (errE_all HE.out).2 hn hsp.2.1 hsp.2.2 i d hd hid j hj)
              rw [← HSS.out] at HLN
              clear hsp hB
              go_wp2_with fail
              go_loopw [12, 13, 14, 15, 16] (fun v12 v13 v14 _ _ wr => ∃ (j i : Nat) (x : Int), v12 = .int .i64 x ∧ v13 = .int .i64 i ∧ v14 = .int .i64 j ∧ j ≤ m ∧ i ≤ n ∧ (0 ≤ x ∧ x ≤ i * 10736344498176) ∧ Aside0 (chkL ((n : Int) - i) (ls.drop j) = some 0 ∧ addO (some x) (sumC s least p i (ls.drop j)) = sumC s least p 0 ls) ∧ Aside0 (Below w6.heap.size w6 wr)) (fun _ _ v14 _ _ _ => m - (intOf v14).toNat)
              case atStart => exact ⟨0, 0, 0, rfl, rfl, rfl, by omega, by omega, by omega, ⟨by simpa using HC.out, by rw [List.drop_zero]; cases sumC s least p 0 ls <;> simp [addO]⟩, ⟨Below.refl _ _⟩⟩
              case round =>
                obtain ⟨j2, i, x, rfl, rfl, rfl, hj2, hi, ⟨hx0, hx1⟩, HX, HW⟩ := hrel
                by_cases hlt2 : j2 < m
                · have hlti2 : (j2 : Int) < m := by omega
                  obtain ⟨ad, e1, g1⟩ := Kd.at_int (Kd.C_below H6.out.2.2.2.2 HW.out) (j2 : Int) (by omega) hlti2
                  subst e1
                  rw [Int.toNat_natCast] at g1
                  have hdr := rd_drop ls (j := j2) (by rw [HML.out]; exact hlt2)
                  obtain ⟨z, hz⟩ : ∃ z, z = rd ls j2 := ⟨_, rfl⟩
                  rw [← hz] at g1 hdr
                  have HZ : Aside0 (rd ls j2 = z) := ⟨hz.symm⟩
                  have hch := HX.out.1
                  rw [hdr] at hch
                  unfold chkL at hch
                  have hzz : ¬ (z < 1 ∨ (n : Int) - i < z) := by
                    intro h
                    rw [if_pos h] at hch
                    cases hch
                  rw [if_neg hzz] at hch
                  obtain ⟨k, rfl⟩ : ∃ k : Nat, z = k := ⟨z.toNat, by omega⟩
                  have hk1 : 1 ≤ k := by omega
                  have hkn : i + k ≤ n := by omega
                  have hsm := HX.out.2
                  rw [hdr] at hsm
                  rw [show sumC s least p i ((k : Int) :: List.drop (j2 + 1) ls) = addO (cO s least p i k) (sumC s least p (i + k) (List.drop (j2 + 1) ls)) by rw [sumC, Int.toNat_natCast]] at hsm
                  rw [show (n : Int) - i - k = (n : Int) - (i + k : Nat) by omega] at hch
                  have s0 := (H6.out.2.2.1.below HW.out).at_ (i := 0) rfl
                  have s1 := (H6.out.2.2.1.below HW.out).at_ (i := 1) rfl
                  have s2 := (H6.out.2.2.1.below HW.out).at_ (i := 2) rfl
                  have q11 : IntKind.i64.wrap ((i : Int) + k) = (i : Int) + k := IntWalk.i64_in _ (by omega)
                  have HL2 := Aside0.mk (fun W (hW : Below w6.heap.size w6 W) => HLN.out W hW i k hk1 hkn ((i : Int) + k) rfl)
                  have HS0 := Aside0.mk (fun (W : World) (hW : Below w6.heap.size w6 W) => (show Aside0 (Below w6.heap.size w6 W) ∧ W.cell? (ad.add j2) = some (.int .i64 k) ∧ W.cell? ⟨w.heap.size, 0, none⟩ = some (.int .i64 l) ∧ W.cell? ⟨w.heap.size, 1, none⟩ = some (.int .i64 least) ∧ W.cell? ⟨w.heap.size, 2, none⟩ = some (.int .i64 p) from by
                    obtain ⟨ad', e1', g1'⟩ := Kd.at_int (Kd.C_below H6.out.2.2.2.2 hW) (j2 : Int) (by omega) hlti2
                    obtain rfl := Option.some.inj e1'
                    rw [Int.toNat_natCast, HZ.out] at g1'
                    exact ⟨⟨hW⟩, g1', (H6.out.2.2.1.below hW).at_ (i := 0) rfl, (H6.out.2.2.1.below hW).at_ (i := 1) rfl, (H6.out.2.2.1.below hW).at_ (i := 2) rfl⟩))
                  cases hcO : cO s least p i k with
                  | none =>
                    have HNO : Aside0 (sumC s least p 0 ls = none) := ⟨by
                      rw [← hsm, hcO]
                      cases sumC s least p (i + k) (ls.drop (j2 + 1)) <;> rfl⟩
                    clear HX hch hsm hz hzz hdr
                    go_upto_region 22 with fail
                    go_cut [15, 16] from 62 to 93 (fun v15 v16 wc => ∃ b : Nat, v15 = .pointer (some ⟨b, 0, none⟩) ∧ v16 = .bool false ∧ Aside0 (Below w6.heap.size w6 wc))
                    case first =>
                      go_region_held3 (fun W => Aside0 (Below w6.heap.size w6 W) ∧ W.cell? (ad.add j2) = some (.int .i64 k) ∧ W.cell? ⟨w.heap.size, 0, none⟩ = some (.int .i64 l) ∧ W.cell? ⟨w.heap.size, 1, none⟩ = some (.int .i64 least) ∧ W.cell? ⟨w.heap.size, 2, none⟩ = some (.int .i64 p))
                        ((refine HS0.out _ ?_; repeat (with_reducible (first | exact HW.out | exact HB7.out | refine below_drew ?_ | refine below_alloc ?_ _ | refine Below.setCell ?_ ?_ _ | exact HB7.out.size | exact HW.out.size))))
                        (first | ((with_reducible refine (HL2.out _ (hbR (by assumption))).mono ?_); rintro e7 w7 h7; obtain ⟨rfl, hb7⟩ := rl_none h7 hcO; have HB7 := Aside0.mk (below_step (hbR (by assumption)) hb7); (first | (have FD := Aside0.mk (by with_reducible exact Blk.below (Blk.new _ [.int .u8 0, .int .u8 0, .int .u8 0, .int .u8 0, .slice none 0 0, .int .i64 0, .int .i64 0, .int .i64 0] 37) hb7); obtain ⟨FDf, FD0, FD1, FD2, FD3, FD4, FD5, FD6, FD7⟩ := blk8R FD.out) | (have FD := Aside0.mk (by with_reducible exact Blk.below (Blk.drew (Blk.new _ [.int .u8 0, .int .u8 0, .int .u8 0, .int .u8 0, .slice none 0 0, .int .i64 0, .int .i64 0, .int .i64 0] 37)) hb7); obtain ⟨FDf, FD0, FD1, FD2, FD3, FD4, FD5, FD6, FD7⟩ := blk8R FD.out) | skip); clear hb7 h7))
                      all_goals go_wp2_with fail
                      all_goals go_meet
                      all_goals first | with_reducible exact ⟨_, rfl, rfl, ⟨(finN HB7.out _ _ _ _ _ _ _ _).1⟩⟩ | exact ⟨_, rfl, rfl, ⟨(finS HB7.out FD.out HW.out.size _ _ _ _ _ _ _ _).1⟩⟩
                    case rest =>
                    obtain ⟨b, rfl, rfl, HW'⟩ := hcut
                    go_wp2_with fail
                    refine bodyPost_ret (v := .tuple #[.int .i64 0, .int .i64 13]) (by simp [results, Try.results34, go_sem]) rfl ?_
                    refine ⟨?_, below_step H6.out.2.1 HW'.out⟩
                    rw [HV2.out, HNO.out]
                  | some co =>
                    have HX2 : Aside0 (chkL ((n : Int) - (i + k : Nat)) (ls.drop (j2 + 1)) = some 0 ∧ addO (some (x + co)) (sumC s least p (i + k) (ls.drop (j2 + 1))) = sumC s least p 0 ls) := ⟨hch, by
                      rw [← hsm, hcO]
                      cases sumC s least p (i + k) (ls.drop (j2 + 1)) <;> simp [addO]
                      omega⟩
                    have hco := cO_bd HSO.out hk1 hkn hcO
                    clear HX hch hsm hz hzz hdr
                    go_upto_region 22 with fail
                    go_cut [15, 16] from 62 to 93 (fun v15 v16 wc => ∃ b : Nat, v15 = .pointer (some ⟨b, 0, none⟩) ∧ v16 = .bool true ∧ Aside0 (Below w6.heap.size w6 wc) ∧ wc.cell? ⟨b, 7, none⟩ = some (.int .i64 co))
                    case first =>
                      go_region_held3 (fun W => Aside0 (Below w6.heap.size w6 W) ∧ W.cell? (ad.add j2) = some (.int .i64 k) ∧ W.cell? ⟨w.heap.size, 0, none⟩ = some (.int .i64 l) ∧ W.cell? ⟨w.heap.size, 1, none⟩ = some (.int .i64 least) ∧ W.cell? ⟨w.heap.size, 2, none⟩ = some (.int .i64 p))
                        ((refine HS0.out _ ?_; repeat (with_reducible (first | exact HW.out | exact HB7.out | refine below_drew ?_ | refine below_alloc ?_ _ | refine Below.setCell ?_ ?_ _ | exact HB7.out.size | exact HW.out.size))))
                        (first | ((with_reducible refine (HL2.out _ (hbR (by assumption))).mono ?_); rintro e7 w7 h7; obtain ⟨A7, c7, rfl, hb7, _⟩ := rl_some h7 hcO; have HB7 := Aside0.mk (below_step (hbR (by assumption)) hb7); (first | (have FD := Aside0.mk (by with_reducible exact Blk.below (Blk.new _ [.int .u8 0, .int .u8 0, .int .u8 0, .int .u8 0, .slice none 0 0, .int .i64 0, .int .i64 0, .int .i64 0] 37) hb7); obtain ⟨FDf, FD0, FD1, FD2, FD3, FD4, FD5, FD6, FD7⟩ := blk8R FD.out) | (have FD := Aside0.mk (by with_reducible exact Blk.below (Blk.drew (Blk.new _ [.int .u8 0, .int .u8 0, .int .u8 0, .int .u8 0, .slice none 0 0, .int .i64 0, .int .i64 0, .int .i64 0] 37)) hb7); obtain ⟨FDf, FD0, FD1, FD2, FD3, FD4, FD5, FD6, FD7⟩ := blk8R FD.out) | skip); clear hb7 h7))
                      all_goals go_wp2_with fail
                      all_goals go_meet
                      all_goals first | with_reducible exact ⟨_, rfl, rfl, ⟨(finN HB7.out _ _ _ _ _ _ _ _).1⟩, (finN HB7.out _ _ _ _ _ _ _ _).2⟩ | exact ⟨_, rfl, rfl, ⟨(finS HB7.out FD.out HW.out.size _ _ _ _ _ _ _ _).1⟩, (finS HB7.out FD.out HW.out.size _ _ _ _ _ _ _ _).2⟩
                    case rest =>
                    obtain ⟨b, rfl, rfl, HW', c7⟩ := hcut
                    obtain ⟨_, g2, _⟩ := HS0.out _ HW'.out
                    clear g1 s0 s1 s2
                    have qx : IntKind.i64.wrap (x + co) = x + co := IntWalk.i64_in _ (by omega)
                    have qj : IntKind.i64.wrap ((j2 : Int) + 1) = (j2 : Int) + 1 := IntWalk.i64_in _ (by omega)
                    go_wp2_with fail
                    go_roundw
                    case rel => exact ⟨j2 + 1, i + k, x + co, by go_num, by go_num, by go_num, by omega, by omega, by omega, HX2, HW'⟩
                    case measure => simp [intOf]; omega
                · have hlti2 : ¬ (j2 : Int) < m := by omega
                  have HY : Aside0 (sumC s least p 0 ls = some x) := ⟨by
                    rw [← HX.out.2, List.drop_of_length_le (by rw [HML.out]; omega)]
                    simp [sumC, addO]⟩
                  clear HX
                  go_wp2_with fail
                  refine bodyPost_ret (v := .tuple #[.int .i64 x, .int .i64 0]) (by simp [results, Try.results34, go_sem]) rfl ?_
                  refine ⟨?_, below_step H6.out.2.1 HW.out⟩
                  rw [HV2.out, HY.out]
          · have hxb : (x != 0) = true := by simpa using hx
            go_wp2_with fail
            refine bodyPost_ret (v := .tuple #[.int .i64 0, .int .i64 2]) (by simp [results, Try.results34, go_sem]) rfl ?_
            refine ⟨?_, below_step H5.out.2.2.1 (bdN _ _)⟩
            rw [HV.out, if_neg (by rw [HC.out]; simpa using hx)]
  · obtain ⟨e0, he0⟩ : ∃ z, z = errE fs l least p := ⟨_, rfl⟩
    have hz : (e0 != 0) = true := by rw [he0]; simpa using hE
    have hR : costR fs l least p ls = (0, e0) := by unfold costR; rw [if_neg hE, ← he0]
    rw [hR]
    have HE0 := Aside0.mk he0
    have HE := Aside0.mk hE
    have hmx := Kd.C_max hm
    clear h hk b1 q1 hl hE he0 hR hm
    go_enter Try.func34, Try.ntmps34
    go_wp2_with ((with_reducible refine HL.out.mono ?_); rintro e5 w5 ⟨rfl, hb5⟩; rw [← HE0.out]; have HB5 := Aside0.mk (below_step HB.out.1 hb5); clear hb5)
    refine bodyPost_ret (v := .tuple #[.int .i64 0, .int .i64 e0]) (by simp [results, Try.results34, go_sem]) rfl ?_
    exact ⟨rfl, HB5.out⟩
end Go.Proofs.Ythkfahkkcjagdaa

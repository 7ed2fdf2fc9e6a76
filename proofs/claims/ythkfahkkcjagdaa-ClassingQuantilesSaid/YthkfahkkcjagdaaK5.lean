/- The library's merge where one stands on the right: its walk. -/
import Derived.Test.YthkfahkkcjagdaaK4
namespace Go.Proofs.Ythkfahkkcjagdaa
open Go.RowKit Go.Proofs.YthkfahkkcjagdaaW.PrintWords Go.Proofs.YthkfahkkcjagdaaW.PrintMore Go.Proofs.YthkfahkkcjagdaaW.PrintLast

set_option maxRecDepth 100000 in
set_option maxHeartbeats 8000000 in
theorem merge_right {kk bb g : Nat} {I : World → Prop} {cf : Int → Int → Int} {dom : Int → Prop} (hC : CmpC kk bb I cf dom g) {L : Int → Int → Prop} (xs : List Int) (w : World) (a m b n c : Nat) (hm : MergeOK cf L xs a m b) (h1 : b = m + 1) (h0 : m ≠ a + 1) (hx : ∀ x ∈ xs, dom x) (hg : Blk w g (ints xs) 3) (hI : I w) (hn : xs.length ≤ n) (hn2 : n ≤ 1000000) :
    Calls Try.prog 135 #[.slice (some ⟨g, 0, none⟩) n c, .int .i64 a, .int .i64 m, .int .i64 b, .func (.func kk) #[] #[.pointer (some ⟨bb, 0, none⟩)]] w (MPost L xs a b g w) := by
  have hen := hC.en
  have HC := Aside0.mk hC; clear hC
  have HX := Aside0.mk hx; clear hx
  have HG := Aside0.mk hg; clear hg
  have HI := Aside0.mk hI; clear hI
  have hle := hm.le
  have hl2 := hm.l2
  have hm' := hm
  have HM := Aside0.mk hm; clear hm
  have hl1 := hm'.l1
  have hb0 : ((m : Int) - a == 1) = false := by simp; omega
  have hb1 : ((b : Int) - m == 1) = true := by simp; omega
  have hma2 : b ≤ m + 1 ∧ m + 1 ≤ b := by omega
  have HMA := Aside0.mk h1; clear h1 h0
  obtain ⟨x, hxx⟩ : ∃ z, z = xs.getD m 0 := ⟨_, rfl⟩
  have HXA := Aside0.mk hxx
  have hcx : w.cell? ⟨g, m, none⟩ = some (.int .i64 x) := by rw [hxx]; exact HG.out.at_ (ints_get _ (by omega))
  have HXD := Aside0.mk (show dom x by rw [hxx]; exact dom_get HX.out (by omega))
  have HCX := Aside0.mk hcx
  clear hxx hcx hm'
  go_enter Try.func135, Try.ntmps135
  go_wp2_with fail
  go_loopw [14, 15] (fun v10 v11 wr => ∃ i j : Nat, v10 = .int .i64 i ∧ v11 = .int .i64 j ∧ a ≤ i ∧ i ≤ j ∧ j ≤ m ∧ Aside0 (a < i → L (xs.getD (i - 1) 0) x) ∧ Aside0 (j < m → L x (xs.getD j 0)) ∧ Aside0 (Below w.heap.size w wr)) (fun v10 v11 _ => (intOf v11).toNat - (intOf v10).toNat)
  case atStart => exact ⟨a, m, rfl, rfl, by omega, by omega, by omega, ⟨fun h => by omega⟩, ⟨fun h => by omega⟩, ⟨Below.refl _ _⟩⟩
  case round =>
    obtain ⟨i, j, rfl, rfl, hi, hij, hj, HLo, HHi, HB⟩ := hrel
    by_cases hlt : i < j
    · have hlti : (i : Int) < j := by omega
      go_upto_region 17 with fail
      obtain ⟨h, hh⟩ : ∃ h : Nat, ((i : Int) + j) / 2 = h := ⟨(i + j) / 2, by omega⟩
      have hih : i ≤ h := by omega
      have hhj : h < j := by omega
      rw [hh]
      clear hh
      obtain ⟨y, hyy⟩ : ∃ z, z = xs.getD h 0 := ⟨_, rfl⟩
      have HY := Aside0.mk hyy
      have hgr := HG.out.below HB.out
      have c1 : wr.cell? ⟨g, h, none⟩ = some (.int .i64 y) := by rw [hyy]; exact hgr.at_ (ints_get _ (by omega))
      have c2 : wr.cell? ⟨g, m, none⟩ = some (.int .i64 x) := by rw [HXA.out]; exact hgr.at_ (ints_get _ (by omega))
      have HYD := Aside0.mk (show dom y by rw [hyy]; exact dom_get HX.out (by omega))
      have hIr : I wr := HC.out.keep _ _ HI.out (Kp.of_below HB.out)
      have HIR := Aside0.mk hIr
      have HCL := Aside0.mk (fun W hW => HC.out.calls W x y hW HXD.out HYD.out)
      have hhn : (h : Int) < n := by omega
      have han : (m : Int) < n := by omega
      clear hyy hgr hIr
      go_cut [103] from 83 to 106 (fun v w3 => v = .bool (!decide (cf x y < 0)) ∧ Aside0 (Below wr.heap.size wr w3))
      case first =>
        go_still_tail 9, (by kernel_rfl)
        change wpList _ _ _ _ _ wr.drew
        go_wp2_with ((with_reducible refine (HCL.out _ ?_).mono ?_); (first | exact HC.out.keep _ _ HIR.out ((Kp.refl _ _).drew) | exact HIR.out); rintro e5 w5 ⟨rfl, hb5⟩)
        go_meet
        case rel => exact ⟨rfl, ⟨below_step (below_drew (Below.refl _ _)) hb5⟩⟩
      case rest =>
      obtain ⟨rfl, hb4⟩ := hcut
      have HB2 := Aside0.mk (below_step HB.out hb4.out)
      clear c1 c2 HCL
      by_cases hlt0 : ¬ cf x y < 0
      · have hd : (!decide (cf x y < 0)) = true := by simpa using hlt0
        have HL2 : Aside0 (a < h + 1 → L (xs.getD (h + 1 - 1) 0) x) := ⟨fun _ => by
          have := HM.out.no (i := h) (j := m) (by omega) (by omega) (by rw [← HY.out, ← HXA.out]; exact hlt0)
          rw [HXA.out]; exact this⟩
        rw [hd]
        clear hd hlt0
        go_wp2_with fail
        go_roundw
        case rel => exact ⟨h + 1, j, by go_num, rfl, by omega, by omega, by omega, HL2, HHi, HB2⟩
        case measure => simp [intOf]; omega
      · have hd : (!decide (cf x y < 0)) = false := by simpa using hlt0
        have HH2 : Aside0 (h < m → L x (xs.getD h 0)) := ⟨fun _ => by
          have := HM.out.yes (i := h) (j := m) (by omega) (by omega) (by rw [← HY.out, ← HXA.out]; omega)
          rw [HXA.out]; exact this⟩
        rw [hd]
        clear hd hlt0
        go_wp2_with fail
        go_roundw
        case rel => exact ⟨i, h, rfl, rfl, by omega, by omega, by omega, HLo, HH2, HB2⟩
        case measure => simp [intOf]; omega
    · have hij2 : i = j := by omega
      have HCUT : Aside0 (Cut L xs a m b i b ∧ (a < i → L (xs.getD (i - 1) 0) (xs.getD m 0))) := ⟨by
        refine ⟨Cut.of_edge HM.out hi (by omega) (by omega) (Nat.le_refl b) (fun _ h => by omega) (fun h _ => ?_), fun h => ?_⟩
        · have := HHi.out (by omega); rw [hij2, show b - 1 = m by omega, ← HXA.out]; exact this
        · have := HLo.out h; rwa [HXA.out] at this⟩
      have him : i ≤ m := by omega
      have hB0 := HG.out.below HB.out
      have hr0 : rotL xs m m (m + 1) = xs := rotL_left xs (by omega)
      have HK0 : Aside0 (Kp (fun i => i = g) w wr ∧ Blk wr g (ints (rotL xs m m (m + 1))) 3) := ⟨⟨Kp.of_below HB.out, by rw [hr0]; exact hB0⟩⟩
      clear hij2 hB0 hr0
      obtain ⟨wo, rfl⟩ : ∃ wo : World, wo = wr := ⟨_, rfl⟩
      go_wp2_with fail
      clear hlt hij HLo HHi
      go_loopw [17] (fun v13 wq => ∃ k : Nat, v13 = .int .i64 k ∧ i ≤ k ∧ k ≤ m ∧ Aside0 (Kp (fun i => i = g) w wq ∧ Blk wq g (ints (rotL xs k m (m + 1))) 3)) (fun v _ => (intOf v).toNat)
      case atStart => exact ⟨m, rfl, by omega, by omega, HK0⟩
      case round =>
        obtain ⟨k, rfl, hka, hki, HKB⟩ := hrel
        clear HK0
        by_cases hlt : i < k
        · have hlti : (i : Int) < k := by omega
          obtain ⟨ys, hys⟩ : ∃ z, z = rotL xs k m (m + 1) := ⟨_, rfl⟩
          have hyl : ys.length = xs.length := by rw [hys]; exact rotL_length xs (by omega) (by omega) (by omega)
          obtain ⟨hkk, hb2⟩ := HKB.out
          rw [← hys] at hb2
          obtain ⟨u, hu⟩ : ∃ z, z = ys.getD (k - 1) 0 := ⟨_, rfl⟩
          obtain ⟨v, hv⟩ : ∃ z, z = ys.getD k 0 := ⟨_, rfl⟩
          have c1 : wr.cell? ⟨g, k - 1, none⟩ = some (.int .i64 u) := by rw [hu]; exact hb2.at_ (ints_get _ (by omega))
          have c2 : wr.cell? ⟨g, k, none⟩ = some (.int .i64 v) := by rw [hv]; exact hb2.at_ (ints_get _ (by omega))
          have c1b : wr.cell? ⟨g, ((k : Int) - 1).toNat, none⟩ = some (.int .i64 u) := by rw [show ((k : Int) - 1).toNat = k - 1 by omega]; exact c1
          have fr := hb2.free
          have hnew := swap_blk hb2 (k - 1) k hu hv
          have hnew2 := swap_blk2 hb2 (k - 1) k (by omega) hu hv
          have e : swapL ys (k - 1) k = rotL xs (k - 1) m (m + 1) := by
            rw [hys]
            have := rot_down xs (m := m) (i := k - 1) (by omega) (by omega)
            rwa [show k - 1 + 1 = k by omega] at this
          rw [e] at hnew hnew2
          have HN := Aside0.mk (And.intro hkk (And.intro hnew hnew2))
          have h1 : (1 : Int) ≤ k := by omega
          have h2 : (k : Int) < n := by omega
          have h3 : (k : Int) - 1 < n := by omega
          have HKI : Aside0 (((k - 1 : Nat) : Int) = (k : Int) - 1) := ⟨by omega⟩
          clear hnew hnew2 e hu hv hyl hys HKB hb2 hkk
          go_upto_region 23 with fail
          go_region
          all_goals go_wp2_with fail
          all_goals go_roundw
          case rel => exact ⟨k - 1, by rw [HKI.out], by omega, by omega, ⟨⟨((HN.out.1.setCell (fun _ => rfl) _).setCell (fun _ => rfl) _).drew, (by first | exact HN.out.2.1.drew | exact HN.out.2.2.drew)⟩⟩⟩
          case measure => simp [intOf]; omega
        · have hki2 : k = i := by omega
          have HF : Aside0 (Kp (fun i => i = g) w wr ∧ Blk wr g (ints (rotL xs i m b)) 3) := ⟨by have := HKB.out; rwa [hki2, ← HMA.out] at this⟩
          clear hki2
          go_wp2_with fail
          refine bodyPost_ret (results_none rfl _ _ _) rfl ?_
          obtain ⟨q1, q2⟩ := HCUT.out.1.one_right HM.out HMA.out HCUT.out.2
          exact ⟨rfl, HF.out.1, _, q1, q2, HF.out.2⟩
end Go.Proofs.Ythkfahkkcjagdaa

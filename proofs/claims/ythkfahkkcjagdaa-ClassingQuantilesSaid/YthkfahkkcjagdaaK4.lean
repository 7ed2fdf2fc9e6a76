/- The library's merge of two sorted segments in place: its walk. -/
import Derived.Test.YthkfahkkcjagdaaK3
namespace Go.Proofs.Ythkfahkkcjagdaa
open Go.RowKit Go.Proofs.YthkfahkkcjagdaaW.PrintWords Go.Proofs.YthkfahkkcjagdaaW.PrintMore Go.Proofs.YthkfahkkcjagdaaW.PrintLast

def MPost (L : Int → Int → Prop) (xs : List Int) (a b g : Nat) (w : World) (e : Ending) (w' : World) : Prop :=
  e = .returned (.tuple #[]) ∧ Kp (fun i => i = g) w w' ∧ ∃ ys, Fr xs ys a b ∧ (seg ys a b).Pairwise L ∧ Blk w' g (ints ys) 3
theorem dom_get {dom : Int → Prop} {xs : List Int} (h : ∀ x ∈ xs, dom x) {i : Nat} (hi : i < xs.length) : dom (xs.getD i 0) := by
  rw [List.getD_eq_getElem?_getD, List.getElem?_eq_getElem hi]
  exact h _ (List.getElem_mem hi)

set_option maxRecDepth 100000 in
set_option maxHeartbeats 8000000 in
theorem merge_left {kk bb g : Nat} {I : World → Prop} {cf : Int → Int → Int} {dom : Int → Prop} (hC : CmpC kk bb I cf dom g) {L : Int → Int → Prop} (xs : List Int) (w : World) (a m b n c : Nat) (hm : MergeOK cf L xs a m b) (h1 : m = a + 1) (hx : ∀ x ∈ xs, dom x) (hg : Blk w g (ints xs) 3) (hI : I w) (hn : xs.length ≤ n) (hn2 : n ≤ 1000000) :
    Calls Try.prog 135 #[.slice (some ⟨g, 0, none⟩) n c, .int .i64 a, .int .i64 m, .int .i64 b, .func (.func kk) #[] #[.pointer (some ⟨bb, 0, none⟩)]] w (MPost L xs a b g w) := by
  have hen := hC.en
  have HC := Aside0.mk hC; clear hC
  have HX := Aside0.mk hx; clear hx
  have HG := Aside0.mk hg; clear hg
  have HI := Aside0.mk hI; clear hI
  have hle := hm.le
  have hl2 := hm.l2
  have HM := Aside0.mk hm; clear hm
  have hb1 : ((m : Int) - a == 1) = true := by simp; omega
  have hma : (m : Int) ≤ a + 1 ∧ (a : Int) + 1 ≤ m := by omega
  have hma2 : m ≤ a + 1 ∧ a + 1 ≤ m := by omega
  have HMA := Aside0.mk h1; clear h1
  obtain ⟨x, hxx⟩ : ∃ z, z = xs.getD a 0 := ⟨_, rfl⟩
  have HXA := Aside0.mk hxx
  have hcx : w.cell? ⟨g, a, none⟩ = some (.int .i64 x) := by rw [hxx]; exact HG.out.at_ (ints_get _ (by omega))
  have HXD := Aside0.mk (show dom x by rw [hxx]; exact dom_get HX.out (by omega))
  have HCX := Aside0.mk hcx
  clear hxx hcx
  go_enter Try.func135, Try.ntmps135
  go_wp2_with fail
  go_loopw [10, 11] (fun v10 v11 wr => ∃ i j : Nat, v10 = .int .i64 i ∧ v11 = .int .i64 j ∧ m ≤ i ∧ i ≤ j ∧ j ≤ b ∧ Aside0 (m < i → L (xs.getD (i - 1) 0) x) ∧ Aside0 (j < b → L x (xs.getD j 0)) ∧ Aside0 (Below w.heap.size w wr)) (fun v10 v11 _ => (intOf v11).toNat - (intOf v10).toNat)
  case atStart => exact ⟨m, b, rfl, rfl, by omega, by omega, by omega, ⟨fun h => by omega⟩, ⟨fun h => by omega⟩, ⟨Below.refl _ _⟩⟩
  case round =>
    obtain ⟨i, j, rfl, rfl, hi, hij, hj, HLo, HHi, HB⟩ := hrel
    by_cases hlt : i < j
    · have hlti : (i : Int) < j := by omega
      go_upto_region 5 with fail
      obtain ⟨h, hh⟩ : ∃ h : Nat, ((i : Int) + j) / 2 = h := ⟨(i + j) / 2, by omega⟩
      have hih : i ≤ h := by omega
      have hhj : h < j := by omega
      rw [hh]
      clear hh
      obtain ⟨y, hyy⟩ : ∃ z, z = xs.getD h 0 := ⟨_, rfl⟩
      have HY := Aside0.mk hyy
      have hgr := HG.out.below HB.out
      have c1 : wr.cell? ⟨g, h, none⟩ = some (.int .i64 y) := by rw [hyy]; exact hgr.at_ (ints_get _ (by omega))
      have c2 : wr.cell? ⟨g, a, none⟩ = some (.int .i64 x) := by rw [HXA.out]; exact hgr.at_ (ints_get _ (by omega))
      have HYD := Aside0.mk (show dom y by rw [hyy]; exact dom_get HX.out (by omega))
      have hIr : I wr := HC.out.keep _ _ HI.out (Kp.of_below HB.out)
      have HIR := Aside0.mk hIr
      have HCL := Aside0.mk (fun W hW => HC.out.calls W y x hW HYD.out HXD.out)
      have hhn : (h : Int) < n := by omega
      have han : (a : Int) < n := by omega
      clear hyy hgr hIr
      go_cut [50] from 31 to 53 (fun v w3 => v = .bool (decide (cf y x < 0)) ∧ Aside0 (Below wr.heap.size wr w3))
      case first =>
        go_still_tail 9, (by kernel_rfl)
        change wpList _ _ _ _ _ wr.drew
        go_wp2_with ((with_reducible refine (HCL.out _ ?_).mono ?_); (first | exact HC.out.keep _ _ HIR.out ((Kp.refl _ _).drew) | exact HIR.out); rintro e5 w5 ⟨rfl, hb5⟩)
        go_meet
        case rel => exact ⟨rfl, ⟨below_step (below_drew (Below.refl _ _)) hb5⟩⟩
      case rest =>
      obtain ⟨rfl, hb4⟩ := hcut
      have HB2 := Aside0.mk (below_step HB.out hb4.out)
      clear c1 c2 HCL
      by_cases hlt0 : cf y x < 0
      · have hd : decide (cf y x < 0) = true := decide_eq_true hlt0
        have HL2 : Aside0 (m < h + 1 → L (xs.getD (h + 1 - 1) 0) x) := ⟨fun _ => by
          have := HM.out.yes (i := a) (j := h) (by omega) (by omega) (by rw [← HY.out, ← HXA.out]; exact hlt0)
          rw [HXA.out]; exact this⟩
        rw [hd]
        clear hd hlt0
        go_wp2_with fail
        go_roundw
        case rel => exact ⟨h + 1, j, by go_num, rfl, by omega, by omega, by omega, HL2, HHi, HB2⟩
        case measure => simp [intOf]; omega
      · have hd : decide (cf y x < 0) = false := decide_eq_false hlt0
        have HH2 : Aside0 (h < b → L x (xs.getD h 0)) := ⟨fun _ => by
          have := HM.out.no (i := a) (j := h) (by omega) (by omega) (by rw [← HY.out, ← HXA.out]; exact hlt0)
          rw [HXA.out]; exact this⟩
        rw [hd]
        clear hd hlt0
        go_wp2_with fail
        go_roundw
        case rel => exact ⟨i, h, rfl, rfl, by omega, by omega, by omega, HLo, HH2, HB2⟩
        case measure => simp [intOf]; omega
    · have hij2 : i = j := by omega
      have HCUT : Aside0 (Cut L xs a m b a i ∧ (i < b → L (xs.getD a 0) (xs.getD i 0))) := ⟨by
        refine ⟨Cut.of_edge HM.out (Nat.le_refl a) (by omega) hi (by omega) (fun h => by omega) (fun _ h => ?_), fun h => ?_⟩
        · have := HLo.out h; rwa [HXA.out] at this
        · have := HHi.out (by omega); rw [← HXA.out, hij2]; exact this⟩
      have hil : i ≤ xs.length := by omega
      have hB0 := HG.out.below HB.out
      have hr0 : rotL xs a m (a + 1) = xs := by rw [HMA.out]; exact rotL_right xs (by omega)
      have HK0 : Aside0 (Kp (fun i => i = g) w wr ∧ Blk wr g (ints (rotL xs a m (a + 1))) 3) := ⟨⟨Kp.of_below HB.out, by rw [hr0]; exact hB0⟩⟩
      clear hij2 hB0 hr0
      obtain ⟨wo, rfl⟩ : ∃ wo : World, wo = wr := ⟨_, rfl⟩
      go_wp2_with fail
      clear hlt hij HLo HHi
      go_loopw [13] (fun v13 wq => ∃ k : Nat, v13 = .int .i64 k ∧ a ≤ k ∧ k + 1 ≤ i ∧ Aside0 (Kp (fun i => i = g) w wq ∧ Blk wq g (ints (rotL xs a m (k + 1))) 3)) (fun v _ => i - (intOf v).toNat)
      case atStart => exact ⟨a, rfl, by omega, by omega, HK0⟩
      case round =>
        obtain ⟨k, rfl, hka, hki, HKB⟩ := hrel
        clear HK0
        by_cases hlt : k + 1 < i
        · have hlti : (k : Int) < i - 1 := by omega
          obtain ⟨ys, hys⟩ : ∃ z, z = rotL xs a m (k + 1) := ⟨_, rfl⟩
          have hyl : ys.length = xs.length := by rw [hys]; exact rotL_length xs (by omega) (by omega) (by omega)
          obtain ⟨hkk, hb2⟩ := HKB.out
          rw [← hys] at hb2
          obtain ⟨u, hu⟩ : ∃ z, z = ys.getD k 0 := ⟨_, rfl⟩
          obtain ⟨v, hv⟩ : ∃ z, z = ys.getD (k + 1) 0 := ⟨_, rfl⟩
          have c1 : wr.cell? ⟨g, k, none⟩ = some (.int .i64 u) := by rw [hu]; exact hb2.at_ (ints_get _ (by omega))
          have c2 : wr.cell? ⟨g, k + 1, none⟩ = some (.int .i64 v) := by rw [hv]; exact hb2.at_ (ints_get _ (by omega))
          have c2b : wr.cell? ⟨g, ((k : Int) + 1).toNat, none⟩ = some (.int .i64 v) := by rw [show ((k : Int) + 1).toNat = k + 1 by omega]; exact c2
          have fr := hb2.free
          have hnew := swap_blk hb2 k (k + 1) hu hv
          have hnew2 := swap_blk2 hb2 k (k + 1) (by omega) hu hv
          have e : swapL ys k (k + 1) = rotL xs a m (k + 1 + 1) := by
            rw [hys, HMA.out]
            have := rot_up xs (a := a) (j := k + 1) (by omega) (by omega)
            rwa [show k + 1 - 1 = k by omega] at this
          rw [e] at hnew hnew2
          have HN := Aside0.mk (And.intro hkk (And.intro hnew hnew2))
          have h1 : (k : Int) + 1 < n := by omega
          have h2 : (k : Int) < n := by omega
          clear hnew hnew2 e hu hv hyl hys HKB hb2 hkk
          go_upto_region 11 with fail
          go_region
          all_goals go_wp2_with fail
          all_goals go_roundw
          case rel => exact ⟨k + 1, by go_num, by omega, by omega, ⟨⟨((HN.out.1.setCell (fun _ => rfl) _).setCell (fun _ => rfl) _).drew, (by first | exact HN.out.2.1.drew | exact HN.out.2.2.drew)⟩⟩⟩
          case measure => simp [intOf]; omega
        · have hki2 : k + 1 = i := by omega
          have HF : Aside0 (Kp (fun i => i = g) w wr ∧ Blk wr g (ints (rotL xs a m i)) 3) := ⟨by have := HKB.out; rwa [hki2] at this⟩
          clear hki2
          go_wp2_with fail
          refine bodyPost_ret (results_none rfl _ _ _) rfl ?_
          obtain ⟨q1, q2⟩ := HCUT.out.1.one_left HM.out HMA.out HCUT.out.2
          exact ⟨rfl, HF.out.1, _, q1, q2, HF.out.2⟩
end Go.Proofs.Ythkfahkkcjagdaa

/- The library's merge of two sorted segments in place: the walk of its general case, and the whole of it. -/
import Derived.Test.YthkfahkkcjagdaaK5
namespace Go.Proofs.Ythkfahkkcjagdaa
open Go.RowKit Go.Proofs.YthkfahkkcjagdaaW.PrintWords Go.Proofs.YthkfahkkcjagdaaW.PrintMore Go.Proofs.YthkfahkkcjagdaaW.PrintLast

theorem perm_dom {dom : Int → Prop} {xs ys : List Int} {a b : Nat} (hab : a ≤ b) (h : Fr xs ys a b) (hx : ∀ x ∈ xs, dom x) : ∀ x ∈ ys, dom x := by
  intro x hy
  rw [seg_whole ys hab, h.lo, h.hi] at hy
  refine hx x ?_
  rw [seg_whole xs hab]
  rcases List.mem_append.1 hy with h1 | h1
  · exact List.mem_append_left _ h1
  · rcases List.mem_append.1 h1 with h2 | h2
    · exact List.mem_append_right _ (List.mem_append_left _ (h.perm.mem_iff.1 h2))
    · exact List.mem_append_right _ (List.mem_append_right _ h2)
def MIH (kk bb g : Nat) (I : World → Prop) (cf : Int → Int → Int) (dom : Int → Prop) (L : Int → Int → Prop) (n c N : Nat) : Prop :=
  ∀ (xs : List Int) (w : World) (a m b : Nat), b - a ≤ N → MergeOK cf L xs a m b → (∀ x ∈ xs, dom x) → Blk w g (ints xs) 3 → I w → xs.length ≤ n →
    Calls Try.prog 135 #[.slice (some ⟨g, 0, none⟩) n c, .int .i64 a, .int .i64 m, .int .i64 b, .func (.func kk) #[] #[.pointer (some ⟨bb, 0, none⟩)]] w (MPost L xs a b g w)

set_option maxRecDepth 100000 in
set_option maxHeartbeats 8000000 in
theorem merge_mid {kk bb g : Nat} {I : World → Prop} {cf : Int → Int → Int} {dom : Int → Prop} (hC : CmpC kk bb I cf dom g) {L : Int → Int → Prop} (N n c : Nat) (hN : MIH kk bb g I cf dom L n c N) (xs : List Int) (w : World) (a m b : Nat) (hNb : b - a ≤ N + 1) (hm : MergeOK cf L xs a m b) (h0 : m ≠ a + 1) (h1 : b ≠ m + 1) (hx : ∀ x ∈ xs, dom x) (hg : Blk w g (ints xs) 3) (hI : I w) (hn : xs.length ≤ n) (hn2 : n ≤ 1000000) :
    Calls Try.prog 135 #[.slice (some ⟨g, 0, none⟩) n c, .int .i64 a, .int .i64 m, .int .i64 b, .func (.func kk) #[] #[.pointer (some ⟨bb, 0, none⟩)]] w (MPost L xs a b g w) := by
  have hen := hC.en
  have HC := Aside0.mk hC; clear hC
  have HN := Aside0.mk hN; clear hN
  have HX := Aside0.mk hx; clear hx
  have HG := Aside0.mk hg; clear hg
  have HI := Aside0.mk hI; clear hI
  have hle := hm.le
  have hl2 := hm.l2
  have hl1 := hm.l1
  have HM := Aside0.mk hm; clear hm
  have hb0 : ((m : Int) - a == 1) = false := by simp; omega
  have hb1 : ((b : Int) - m == 1) = false := by simp; omega
  clear h0 h1
  go_enter Try.func135, Try.ntmps135
  go_upto_if 140 with fail
  obtain ⟨mid, hmid⟩ : ∃ mid : Nat, ((a : Int) + b) / 2 = mid := ⟨(a + b) / 2, by omega⟩
  have hm1 : a + b ≤ 2 * mid + 1 := by omega
  have hm2 : 2 * mid ≤ a + b := by omega
  rw [hmid]
  clear hmid
  go_cut [20, 21] from 138 to 146 (fun v20 v21 w2 => ∃ s0 r0 : Nat, v20 = .int .i64 s0 ∧ v21 = .int .i64 r0 ∧ a ≤ s0 ∧ s0 ≤ r0 ∧ r0 ≤ m ∧ r0 ≤ mid ∧ mid + m ≤ b + s0 ∧ Aside0 (s0 = a ∨ mid + m = b + s0) ∧ Aside0 (r0 = m ∨ r0 = mid) ∧ Aside0 (Below w.heap.size w w2))
  case first =>
    by_cases hgt : mid < m
    · have d : decide ((mid : Int) < m) = true := decide_eq_true (by omega)
      have e1 : Aside0 (((mid + m - b : Nat) : Int) = (mid : Int) + m - b) := ⟨by omega⟩
      go_wp2_with fail
      go_meet
      case rel => exact ⟨mid + m - b, mid, by rw [e1.out], rfl, by omega, by omega, by omega, by omega, by omega, ⟨.inr (by omega)⟩, ⟨.inr rfl⟩, ⟨Below.refl _ _⟩⟩
    · have d : decide ((mid : Int) < m) = false := decide_eq_false (by omega)
      go_wp2_with fail
      go_meet
      case rel => exact ⟨a, m, rfl, rfl, by omega, by omega, by omega, by omega, by omega, ⟨.inl rfl⟩, ⟨.inl rfl⟩, ⟨Below.refl _ _⟩⟩
  case rest =>
  obtain ⟨s0, r0, rfl, rfl, hs1, hs2, hs3, hs4, hs5, HS, HRr, HB0⟩ := hcut
  obtain ⟨p, hp⟩ : ∃ p : Nat, (mid : Int) + m - 1 = p := ⟨mid + m - 1, by omega⟩
  have hp1 : p + 1 ≤ mid + m := by omega
  have hp2 : mid + m ≤ p + 1 := by omega
  go_upto_region 32 with fail
  go_cut [22] from 147 to 148 (fun v w2 => v = .int .i64 p ∧ Aside0 (Below w.heap.size w w2))
  case first =>
    go_wp2_with fail
    go_meet
    case rel => exact ⟨rfl, HB0⟩
  case rest =>
  obtain ⟨rfl, HB1⟩ := hcut
  clear HB0 hp
  go_wp2_with fail
  go_loopw [20, 21] (fun v10 v11 wr => ∃ i j : Nat, v10 = .int .i64 i ∧ v11 = .int .i64 j ∧ s0 ≤ i ∧ i ≤ j ∧ j ≤ r0 ∧ Aside0 (s0 < i → L (xs.getD (i - 1) 0) (xs.getD (mid + m - i) 0)) ∧ Aside0 (j < r0 → L (xs.getD (mid + m - 1 - j) 0) (xs.getD j 0)) ∧ Aside0 (Below w.heap.size w wr)) (fun v10 v11 _ => (intOf v11).toNat - (intOf v10).toNat)
  case atStart => exact ⟨s0, r0, rfl, rfl, by omega, by omega, by omega, ⟨fun h => by omega⟩, ⟨fun h => by omega⟩, HB1⟩
  case round =>
    obtain ⟨i, j, rfl, rfl, hi, hij, hj, HLo, HHi, HB⟩ := hrel
    clear HB1
    by_cases hlt : i < j
    · have hlti : (i : Int) < j := by omega
      go_upto_region 35 with fail
      obtain ⟨h, hh⟩ : ∃ h : Nat, ((i : Int) + j) / 2 = h := ⟨(i + j) / 2, by omega⟩
      have hih : i ≤ h := by omega
      have hhj : h < j := by omega
      rw [hh]
      clear hh
      obtain ⟨q, hq⟩ : ∃ q : Nat, (p : Int) - h = q := ⟨p - h, by omega⟩
      have hq1 : q + h ≤ p := by omega
      have hq2 : p ≤ q + h := by omega
      have HQ := Aside0.mk hq; clear hq
      obtain ⟨x, hxx⟩ : ∃ z, z = xs.getD h 0 := ⟨_, rfl⟩
      obtain ⟨y, hyy⟩ : ∃ z, z = xs.getD q 0 := ⟨_, rfl⟩
      have HXA := Aside0.mk hxx
      have HY := Aside0.mk hyy
      have hgr := HG.out.below HB.out
      have c1 : wr.cell? ⟨g, q, none⟩ = some (.int .i64 y) := by rw [hyy]; exact hgr.at_ (ints_get _ (by omega))
      have c1b : wr.cell? ⟨g, ((p : Int) - h).toNat, none⟩ = some (.int .i64 y) := by rw [HQ.out, Int.toNat_natCast]; exact c1
      have c1c : wr.cell? ⟨g, p - h, none⟩ = some (.int .i64 y) := by rw [show p - h = q by omega]; exact c1
      have c2 : wr.cell? ⟨g, h, none⟩ = some (.int .i64 x) := by rw [hxx]; exact hgr.at_ (ints_get _ (by omega))
      have HYD := Aside0.mk (show dom y by rw [hyy]; exact dom_get HX.out (by omega))
      have HXD := Aside0.mk (show dom x by rw [hxx]; exact dom_get HX.out (by omega))
      have hIr : I wr := HC.out.keep _ _ HI.out (Kp.of_below HB.out)
      have HIR := Aside0.mk hIr
      have HCL := Aside0.mk (fun W hW => HC.out.calls W y x hW HYD.out HXD.out)
      have hhn : (h : Int) < n := by omega
      have hqn : (p : Int) - h < n := by omega
      have hq0 : 0 ≤ (p : Int) - h := by omega
      have hqh : h ≤ p := by omega
      clear hxx hyy hgr hIr
      go_cut [171] from 149 to 174 (fun v w3 => v = .bool (!decide (cf y x < 0)) ∧ Aside0 (Below wr.heap.size wr w3))
      case first =>
        have j4 : IntKind.i64.wrap ((p : Int) - h) = (p : Int) - h := IntWalk.i64_in _ (by omega)
        go_still_tail 11, (by kernel_rfl)
        clear j4
        change wpList _ _ _ _ _ wr.drew
        go_wp2_with ((with_reducible refine (HCL.out _ ?_).mono ?_); (first | exact HC.out.keep _ _ HIR.out ((Kp.refl _ _).drew) | exact HIR.out); rintro e5 w5 ⟨rfl, hb5⟩)
        go_meet
        case rel => exact ⟨rfl, ⟨below_step (below_drew (Below.refl _ _)) hb5⟩⟩
      case rest =>
      obtain ⟨rfl, hb4⟩ := hcut
      have HB2 := Aside0.mk (below_step HB.out hb4.out)
      clear c1 c1b c1c c2 HCL
      by_cases hlt0 : ¬ cf y x < 0
      · have hd : (!decide (cf y x < 0)) = true := by simpa using hlt0
        have HL2 : Aside0 (s0 < h + 1 → L (xs.getD (h + 1 - 1) 0) (xs.getD (mid + m - (h + 1)) 0)) := ⟨fun _ => by
          have := HM.out.no (i := h) (j := q) (by omega) (by omega) (by rw [← HY.out, ← HXA.out]; exact hlt0)
          rw [show mid + m - (h + 1) = q by omega]; exact this⟩
        rw [hd]
        clear hd hlt0
        go_wp2_with fail
        go_roundw
        case rel => exact ⟨h + 1, j, by go_num, rfl, by omega, by omega, by omega, HL2, HHi, HB2⟩
        case measure => simp [intOf]; omega
      · have hd : (!decide (cf y x < 0)) = false := by simpa using hlt0
        have HH2 : Aside0 (h < r0 → L (xs.getD (mid + m - 1 - h) 0) (xs.getD h 0)) := ⟨fun _ => by
          have := HM.out.yes (i := h) (j := q) (by omega) (by omega) (by rw [← HY.out, ← HXA.out]; omega)
          rw [show mid + m - 1 - h = q by omega]; exact this⟩
        rw [hd]
        clear hd hlt0
        go_wp2_with fail
        go_roundw
        case rel => exact ⟨i, h, rfl, rfl, by omega, by omega, by omega, HLo, HH2, HB2⟩
        case measure => simp [intOf]; omega
    · have hij2 : i = j := by omega
      obtain ⟨e, he⟩ : ∃ e : Nat, (mid : Int) + m - i = e := ⟨mid + m - i, by omega⟩
      have HCUT : Aside0 (Cut L xs a m b i e) := ⟨by
        refine Cut.of_edge HM.out (by omega) (by omega) (by omega) (by omega) (fun h1 h2 => ?_) (fun h1 h2 => ?_)
        · have hs : s0 < i := by
            rcases HS.out with h | h <;> omega
          have := HLo.out hs
          rwa [show mid + m - i = e by omega] at this
        · have hs : j < r0 := by
            rcases HRr.out with h | h <;> omega
          have := HHi.out hs
          rw [show mid + m - 1 - j = e - 1 by omega] at this
          rw [hij2]; exact this⟩
      have HME : Aside0 (mid = i + (e - m)) := ⟨by omega⟩
      have hei : e + i ≤ mid + m := by omega
      have hei2 : mid + m ≤ e + i := by omega
      have hIw : I wr := HC.out.keep _ _ HI.out (Kp.of_below HB.out)
      have HW := Aside0.mk (And.intro hIw (HG.out.below HB.out))
      have HE := Aside0.mk he
      clear hij2 HLo HHi HS HRr hIw he
      obtain ⟨wo, rfl⟩ : ∃ wo : World, wo = wr := ⟨_, rfl⟩
      go_upto_region 39 with fail
      rw [HE.out]
      clear hlt hij hj
      go_cut [185] from 178 to 185 (fun v w2 => v = .bool (decide (i < m ∧ m < e)) ∧ Aside0 (Below wo.heap.size wo w2))
      case first =>
        by_cases q1 : i < m
        · have d1 : decide ((i : Int) < m) = true := decide_eq_true (by omega)
          by_cases q2 : m < e
          · have d2 : decide ((m : Int) < e) = true := decide_eq_true (by omega)
            go_wp2_with fail
            go_meet
            case rel => exact ⟨by rw [decide_eq_true (show i < m ∧ m < e from ⟨q1, q2⟩)], ⟨Below.refl _ _⟩⟩
          · have d2 : decide ((m : Int) < e) = false := decide_eq_false (by omega)
            go_wp2_with fail
            go_meet
            case rel => exact ⟨by rw [decide_eq_false (show ¬ (i < m ∧ m < e) from fun h => q2 h.2)], ⟨Below.refl _ _⟩⟩
        · have d1 : decide ((i : Int) < m) = false := decide_eq_false (by omega)
          go_wp2_with fail
          go_meet
          case rel => exact ⟨by rw [decide_eq_false (show ¬ (i < m ∧ m < e) from fun h => q1 h.1)], ⟨Below.refl _ _⟩⟩
      case rest =>
      obtain ⟨rfl, HB2⟩ := hcut
      obtain ⟨w2, hw2⟩ : ∃ z, z = wc := ⟨_, rfl⟩
      subst hw2
      go_upto_if 185 with fail
      go_cut [24] from 185 to 191 (fun v w3 => v = .int .i64 e ∧ Aside0 (Kp (fun i => i = g) w w3 ∧ Blk w3 g (ints (rotL xs i m e)) 3))
      case first =>
        by_cases hr : i < m ∧ m < e
        · have hrot := rotate_any g xs w2 (HW.out.2.below HB2.out) i m e n c (.func (.func kk) #[] #[.pointer (some ⟨bb, 0, none⟩)]) hr.1 hr.2 (by omega) hn hn2
          have HROT := Aside0.mk hrot
          rw [decide_eq_true hr]
          clear hrot hr
          go_wp2_with ((with_reducible refine HROT.out.mono ?_); rintro e5 w5 ⟨rfl, hk5, hb5⟩; have H5 := Aside0.mk (And.intro hk5 hb5); clear hk5 hb5)
          go_meet
          case rel => exact ⟨rfl, ⟨⟨(Kp.of_below (below_step HB.out HB2.out)).step H5.out.1, H5.out.2⟩⟩⟩
        · have hrr : rotL xs i m e = xs := by
            have q1 := HCUT.out.sm
            have q2 := HCUT.out.em
            rcases (show i = m ∨ m = e by omega) with h | h
            · rw [h]; exact rotL_left xs (by omega)
            · rw [← h]; exact rotL_right xs (by omega)
          have HRR : Aside0 (Kp (fun i => i = g) w w2 ∧ Blk w2 g (ints (rotL xs i m e)) 3) := ⟨⟨Kp.of_below (below_step HB.out HB2.out), by rw [hrr]; exact HW.out.2.below HB2.out⟩⟩
          rw [decide_eq_false hr]
          clear hrr hr
          go_wp2_with fail
          go_meet
          case rel => exact ⟨rfl, HRR⟩
      case rest =>
      obtain ⟨rfl, HR3⟩ := hcut
      obtain ⟨w3, hw3⟩ : ∃ z, z = wc := ⟨_, rfl⟩
      subst hw3
      have hFr : Fr xs (rotL xs i m e) i e := rotL_Fr xs HCUT.out.sm HCUT.out.em (by omega)
      have HFR := Aside0.mk (hFr.mono HCUT.out.sa (Nat.le_trans HCUT.out.sm HCUT.out.em) HCUT.out.eb)
      have HRL : Aside0 ((rotL xs i m e).length ≤ n) := ⟨by rw [hFr.len]; exact hn⟩
      clear hFr
      go_upto_region 41 with fail
      go_cut [199] from 192 to 199 (fun v w2 => v = .bool (decide (a < i ∧ i < mid)) ∧ Aside0 (Below w3.heap.size w3 w2))
      case first =>
        by_cases q1 : a < i
        · have d1 : decide ((a : Int) < i) = true := decide_eq_true (by omega)
          by_cases q2 : i < mid
          · have d2 : decide ((i : Int) < mid) = true := decide_eq_true (by omega)
            go_wp2_with fail
            go_meet
            case rel => exact ⟨by rw [decide_eq_true (show a < i ∧ i < mid from ⟨q1, q2⟩)], ⟨Below.refl _ _⟩⟩
          · have d2 : decide ((i : Int) < mid) = false := decide_eq_false (by omega)
            go_wp2_with fail
            go_meet
            case rel => exact ⟨by rw [decide_eq_false (show ¬ (a < i ∧ i < mid) from fun h => q2 h.2)], ⟨Below.refl _ _⟩⟩
        · have d1 : decide ((a : Int) < i) = false := decide_eq_false (by omega)
          go_wp2_with fail
          go_meet
          case rel => exact ⟨by rw [decide_eq_false (show ¬ (a < i ∧ i < mid) from fun h => q1 h.1)], ⟨Below.refl _ _⟩⟩
      case rest =>
      obtain ⟨rfl, HB4⟩ := hcut
      obtain ⟨w4, hw4⟩ : ∃ z, z = wc := ⟨_, rfl⟩
      subst hw4
      have hk4 : Kp (fun i => i = g) w w4 := HR3.out.1.then_below HB4.out
      have hI4 : I w4 := HC.out.keep _ _ HI.out hk4
      have HW4 := Aside0.mk (And.intro hk4 (And.intro hI4 (HR3.out.2.below HB4.out)))
      clear hk4 hI4
      go_upto_if 199 with fail
      go_cut [24] from 199 to 205 (fun v w3 => v = .int .i64 e ∧ Aside0 (Kp (fun i => i = g) w w3 ∧ ∃ ys, Fr (rotL xs i m e) ys a mid ∧ (seg ys a mid).Pairwise L ∧ Blk w3 g (ints ys) 3))
      case first =>
        by_cases hr : a < i ∧ i < mid
        · have hmo := HCUT.out.left HM.out hr.1 (by omega)
          rw [← HME.out] at hmo
          have hrec := HN.out (rotL xs i m e) w4 a i mid (by omega) hmo (perm_dom (by omega) HFR.out HX.out) HW4.out.2.2 HW4.out.2.1 HRL.out
          have HREC := Aside0.mk hrec
          rw [decide_eq_true hr]
          clear hmo hrec hr
          go_wp2_with ((with_reducible refine HREC.out.mono ?_); rintro e5 w5 ⟨rfl, hk5, hb5⟩; have H5 := Aside0.mk (And.intro hk5 hb5); clear hk5 hb5)
          go_meet
          case rel => exact ⟨rfl, ⟨⟨HW4.out.1.step H5.out.1, H5.out.2⟩⟩⟩
        · have hp0 := HCUT.out.left0 HM.out (by omega)
          rw [← HME.out] at hp0
          have HP0 := Aside0.mk hp0
          rw [decide_eq_false hr]
          clear hp0 hr
          go_wp2_with fail
          go_meet
          case rel => exact ⟨rfl, ⟨⟨HW4.out.1, _, Fr.refl _ _ _, HP0.out, HW4.out.2.2⟩⟩⟩
      case rest =>
      obtain ⟨rfl, ⟨hk5, ys, hfy, hpy, hby⟩⟩ := hcut
      obtain ⟨w5, hw5⟩ : ∃ z, z = wc := ⟨_, rfl⟩
      subst hw5
      have HY5 := Aside0.mk (And.intro hk5 (And.intro hfy (And.intro hpy hby)))
      clear hk5 hfy hpy hby
      go_upto_region 43 with fail
      go_cut [213] from 206 to 213 (fun v w2 => v = .bool (decide (mid < e ∧ e < b)) ∧ Aside0 (Below w5.heap.size w5 w2))
      case first =>
        by_cases q1 : mid < e
        · have d1 : decide ((mid : Int) < e) = true := decide_eq_true (by omega)
          by_cases q2 : e < b
          · have d2 : decide ((e : Int) < b) = true := decide_eq_true (by omega)
            go_wp2_with fail
            go_meet
            case rel => exact ⟨by rw [decide_eq_true (show mid < e ∧ e < b from ⟨q1, q2⟩)], ⟨Below.refl _ _⟩⟩
          · have d2 : decide ((e : Int) < b) = false := decide_eq_false (by omega)
            go_wp2_with fail
            go_meet
            case rel => exact ⟨by rw [decide_eq_false (show ¬ (mid < e ∧ e < b) from fun h => q2 h.2)], ⟨Below.refl _ _⟩⟩
        · have d1 : decide ((mid : Int) < e) = false := decide_eq_false (by omega)
          go_wp2_with fail
          go_meet
          case rel => exact ⟨by rw [decide_eq_false (show ¬ (mid < e ∧ e < b) from fun h => q1 h.1)], ⟨Below.refl _ _⟩⟩
      case rest =>
      obtain ⟨rfl, HB6⟩ := hcut
      obtain ⟨w6, hw6⟩ : ∃ z, z = wc := ⟨_, rfl⟩
      subst hw6
      have hk6 : Kp (fun i => i = g) w w6 := HY5.out.1.then_below HB6.out
      have hI6 : I w6 := HC.out.keep _ _ HI.out hk6
      have HW6 := Aside0.mk (And.intro hk6 (And.intro hI6 (HY5.out.2.2.2.below HB6.out)))
      clear hk6 hI6
      have hfy : Fr (rotL xs i m e) ys a (i + (e - m)) := by rw [← HME.out]; exact HY5.out.2.1
      have hpy : (seg ys a (i + (e - m))).Pairwise L := by rw [← HME.out]; exact HY5.out.2.2.1
      have HFY := Aside0.mk (And.intro hfy hpy)
      clear hfy hpy
      by_cases hr : mid < e ∧ e < b
      · have hmo := HCUT.out.right HM.out HFY.out.1 (by omega) hr.2
        rw [← HME.out] at hmo
        have hfull : Fr xs ys a b := HFR.out.trans (HY5.out.2.1.mono (Nat.le_refl a) (by omega) (by omega))
        have hrec := HN.out ys w6 mid e b (by omega) hmo (perm_dom (by omega) hfull HX.out) HW6.out.2.2 HW6.out.2.1 (by rw [hfull.len]; exact hn)
        have HREC := Aside0.mk hrec
        rw [decide_eq_true hr]
        clear hmo hrec hr hfull
        go_wp2_with ((with_reducible refine HREC.out.mono ?_); rintro e5 w7 ⟨rfl, hk7, zs, hf7, hp7, hb7⟩; have H7 := Aside0.mk (And.intro hk7 (And.intro hf7 (And.intro hp7 hb7))); clear hk7 hf7 hp7 hb7)
        go_end0
        have hf7 : Fr ys zs (i + (e - m)) b := by rw [← HME.out]; exact H7.out.2.1
        have hp7 : (seg zs (i + (e - m)) b).Pairwise L := by rw [← HME.out]; exact H7.out.2.2.1
        obtain ⟨r1, r2⟩ := HCUT.out.done HM.out HFY.out.1 HFY.out.2 hf7 hp7
        exact ⟨rfl, HW6.out.1.step H7.out.1, zs, r1, r2, H7.out.2.2.2⟩
      · have hp0 := HCUT.out.right0 HM.out HFY.out.1 (by omega)
        have HP0 := Aside0.mk hp0
        rw [decide_eq_false hr]
        clear hp0 hr
        go_wp2_with fail
        go_end0
        obtain ⟨r1, r2⟩ := HCUT.out.done HM.out HFY.out.1 HFY.out.2 (Fr.refl _ _ _) HP0.out
        exact ⟨rfl, HW6.out.1, ys, r1, r2, HW6.out.2.2⟩
theorem merge_any {kk bb g : Nat} {I : World → Prop} {cf : Int → Int → Int} {dom : Int → Prop} (hC : CmpC kk bb I cf dom g) {L : Int → Int → Prop} (n c : Nat) (hn2 : n ≤ 1000000) : ∀ N, MIH kk bb g I cf dom L n c N := by
  intro N
  induction N with
  | zero => intro xs w a m b h hm; have := hm.l1; have := hm.l2; omega
  | succ N ih =>
    intro xs w a m b h hm hx hg hI hn
    by_cases h0 : m = a + 1
    · exact merge_left hC xs w a m b n c hm h0 hx hg hI hn hn2
    · by_cases h1 : b = m + 1
      · exact merge_right hC xs w a m b n c hm h1 h0 hx hg hI hn hn2
      · exact merge_mid hC N n c ih xs w a m b h hm h0 h1 hx hg hI hn hn2
end Go.Proofs.Ythkfahkkcjagdaa

/- What a line costs about any centre: the walk of the law's own function. -/
import Derived.Test.YthkfahkkcjagdaaV1
namespace Go.Proofs.Ythkfahkkcjagdaa
open Go.RowKit Go.Proofs.YthkfahkkcjagdaaW.PrintWords Go.Proofs.YthkfahkkcjagdaaW.PrintMore Go.Proofs.YthkfahkkcjagdaaW.PrintLast
attribute [local go_sem] max2_int min2_int

theorem own_ints_C {w : World} {N g d cap : Nat} {xs : List Int} (h : w.ownsRow N 3 1 (.slice (some ⟨g, 0, none⟩) d cap) d (ints xs)) (hx : xs.length = d) (hd : d ≤ 9223372036854775807) : (Kd.int .i64).C w (some ⟨g, 0, none⟩) d xs := by
  refine ⟨hx, hd, fun _ => ⟨_, rfl, fun j p hp => ⟨[.int .i64 p], rfl, rfl, fun i u hi => ?_⟩⟩⟩
  have hj : j < xs.length := (List.getElem?_eq_some_iff.1 hp).1
  cases i with
  | zero =>
    simp only [List.getElem?_cons_zero, Option.some.injEq] at hi
    subst hi
    rcases h.2 with ⟨h1, _⟩ | ⟨g', cap', cur, h1, hg, hh, h2, h3, h4, h5⟩
    · cases h1
    · cases h1
      have e1 := ints_get xs hj
      have e2 := congrArg (fun x => x[j]?) h5
      rw [List.getElem?_take, if_pos (by omega), Array.getElem?_toList, e1] at e2
      rw [add_plain]
      have hp2 : xs.getD j 0 = p := by rw [List.getD_eq_getElem?_getD, hp]; rfl
      rw [hp2] at e2
      have e3 : (Kd.int IntKind.i64).sz = 1 := rfl
      simp [World.cell?, hh, e2, e3]
  | succ i => simp at hi
theorem costD_congr {s t : Nat → Fl} {i j : Nat} {x : Int} : ∀ d, (∀ k, k < d → s (i + k) = t (j + k)) → costD s i x d = costD t j x d
  | 0, _ => rfl
  | d + 1, h => by
    show costD s i x d + _ = costD t j x d + _
    rw [costD_congr d (fun k hk => h k (by omega)), h d (by omega)]
theorem costX_bd {s : Nat → Fl} {n : Nat} (h : SOK s n) (i : Nat) {m : Int} (hm : 0 ≤ m ∧ m ≤ 20000) : ∀ d, i + d ≤ n → 0 ≤ costD s i m d ∧ costD s i m d ≤ d * 21474836480000
  | 0, _ => by simp [costD]
  | d + 1, hd => by
    have h1 := costX_bd h i hm d (by omega)
    have h2 := h (i + d) (by omega)
    have h3 : 0 ≤ distI m (s (i + d)).mic ∧ distI m (s (i + d)).mic ≤ 20000 := by unfold distI; split <;> omega
    have h4 := mul_bd (x := (s (i + d)).gr) (a := 1073741824) (by omega) h2.2.2 h3.1 h3.2
    unfold costD
    omega

set_option maxHeartbeats 4000000 in
theorem spent_any (w : World) (A B : Option Addr) (n c d cd : Nat) (fs : List Fl) (xs : List Int) (x k0 k1 k2 k3 M ce co : Int) (h : kF.C w A n fs) (hr : (Kd.int .i64).C w B d xs) (hm : ∀ z ∈ xs, 0 ≤ z ∧ z < n) (ha : fs.all flOK = true) (hn : fs.length = n) (hd : d ≤ 128) (hx : 0 ≤ x ∧ x ≤ 20000) :
    Calls Try.prog 21 #[.slice A n c, .agg #[.int .u8 k0, .int .u8 k1, .int .u8 k2, .int .u8 k3, .slice B d cd, .int .i64 M, .int .i64 ce, .int .i64 co], .int .i64 x] w fun e w' => e = .returned (.int .i64 (costD (fun k => rdF fs (rd xs k)) 0 x d)) ∧ Below w.heap.size w w' := by
  obtain ⟨hx0, hx1⟩ := hx
  have hso : SOK (fun k => rdF fs (rd xs k)) d := by
    intro k hk
    have h1 := hm (rd xs k) (by
      unfold rd
      rw [Int.toNat_natCast]
      exact getD_mem (by rw [Kd.C_len hr]; exact hk))
    have h2 := all_rd ha (x := rd xs k) h1.1 (by rw [hn]; exact h1.2)
    unfold flOK at h2
    rw [decide_eq_true_eq] at h2
    exact ⟨⟨h2.1, h2.2.1⟩, h2.2.2.1, h2.2.2.2⟩
  have HSO := Aside0.mk hso; clear hso
  have b1 := below_alloc (Below.refl w.heap.size w) (.cells #[.int .u8 k0, .int .u8 k1, .int .u8 k2, .int .u8 k3, .slice B d cd, .int .i64 M, .int .i64 ce, .int .i64 co] 37)
  have q1 := Blk.new w [.int .u8 k0, .int .u8 k1, .int .u8 k2, .int .u8 k3, .slice B d cd, .int .i64 M, .int .i64 ce, .int .i64 co] 37
  obtain ⟨w1, hw1⟩ : ∃ z, z = w.alloc (.cells #[.int .u8 k0, .int .u8 k1, .int .u8 k2, .int .u8 k3, .slice B d cd, .int .i64 M, .int .i64 ce, .int .i64 co] 37) := ⟨_, rfl⟩
  have HC := Aside0.mk (And.intro h (And.intro hr (And.intro hm (And.intro ha hn))))
  clear h hr hm ha hn
  go_enter Try.func21, Try.ntmps21
  go_upto_region 2 with fail
  rw [← hw1] at b1 q1 ⊢
  have H1 := Aside0.mk (And.intro b1 q1)
  clear b1 q1 hw1
  obtain ⟨b4, hb4⟩ : ∃ z, z = w.heap.size := ⟨_, rfl⟩
  rw [← hb4] at H1 ⊢
  have HB4 := Aside0.mk hb4; clear hb4
  go_wp2_with fail
  go_loopw [7, 8, 9] (fun v7 v8 _ wr => ∃ (e : Int) (z : Int), v7 = .int .i64 z ∧ v8 = .int .i64 e ∧ 0 ≤ e ∧ e ≤ d ∧ Aside0 (z = costD (fun k => rdF fs (rd xs k)) 0 x e.toNat) ∧ Aside0 (Below w.heap.size w wr ∧ Blk wr b4 [.int .u8 k0, .int .u8 k1, .int .u8 k2, .int .u8 k3, .slice B d cd, .int .i64 M, .int .i64 ce, .int .i64 co] 37)) (fun _ v8 _ _ => d - (intOf v8).toNat)
  case atStart => exact ⟨0, 0, rfl, rfl, by omega, by omega, ⟨rfl⟩, ⟨by have := H1.out.1; rwa [HB4.out] at this, H1.out.2⟩⟩
  case round =>
    obtain ⟨e, z, rfl, rfl, he0, he, HX, HW⟩ := hrel
    have hzb := costX_bd HSO.out 0 ⟨hx0, hx1⟩ e.toNat (by omega)
    rw [← HX.out] at hzb
    obtain ⟨hz0, hz1⟩ := hzb
    have s4 := HW.out.2.at_ (i := 4) rfl
    by_cases hlt : e < d
    · obtain ⟨aB, eB, g⟩ := Kd.at_int (Kd.C_below HC.out.2.1 HW.out.1) e he0 hlt
      subst eB
      have hm := HC.out.2.2.1 (rd xs e) (by
        unfold rd
        exact getD_mem (by rw [Kd.C_len HC.out.2.1]; omega))
      have hso := HSO.out e.toNat (by omega)
      have hre : rd xs (e.toNat : Int) = rd xs e := by unfold rd; rw [Int.toNat_natCast]
      have hce : costD (fun k => rdF fs (rd xs k)) 0 x (e + 1).toNat = z + (rdF fs (rd xs e)).gr * distI x (rdF fs (rd xs e)).mic := by
        rw [show (e + 1).toNat = e.toNat + 1 by omega]
        show costD _ 0 x e.toNat + (rdF fs (rd xs ((0 + e.toNat : Nat) : Int))).gr * distI x (rdF fs (rd xs ((0 + e.toNat : Nat) : Int))).mic = _
        rw [Nat.zero_add, hre, ← HX.out]
      dsimp only at hso
      rw [hre] at hso
      obtain ⟨q, hq⟩ : ∃ q, q = rd xs e := ⟨_, rfl⟩
      rw [← hq] at hm hso hce g
      obtain ⟨hq0, hq1⟩ := hm
      obtain ⟨ad, e1, g0, g1, g2, g3, g4, g5⟩ := at_F (Kd.C_below HC.out.1 HW.out.1) q hq0 hq1
      subst e1
      obtain ⟨f, hf⟩ : ∃ z, z = rdF fs q := ⟨_, rfl⟩
      rw [← hf] at g0 g1 g2 g3 g4 g5 hso hce
      have HCE := Aside0.mk hce; clear hce hf hq hre
      obtain ⟨x0, x1, x2, x3, x4, x5⟩ := f
      dsimp only at g0 g1 g2 g3 g4 g5 hso
      obtain ⟨⟨hm1, hm2⟩, hg1, hg2⟩ := hso
      go_upto_region 6 with fail
      have al := below_alloc (Below.refl wr.heap.size wr) (.cells #[.int .u8 x0, .int .u8 x1, .int .u8 x2, .int .u8 x3, .int .i64 x4, .int .i64 x5] 44)
      have B9 := Blk.new wr [.int .u8 x0, .int .u8 x1, .int .u8 x2, .int .u8 x3, .int .i64 x4, .int .i64 x5] 44
      generalize (wr.alloc (.cells #[.int .u8 x0, .int .u8 x1, .int .u8 x2, .int .u8 x3, .int .i64 x4, .int .i64 x5] 44)) = w9 at al B9 ⊢
      have f4 := B9.at_ (i := 4) rfl
      have f5 := B9.at_ (i := 5) rfl
      have hw4 := below_step HW.out.1 al
      have hq4 := HW.out.2.below al
      have H9 := Aside0.mk (And.intro hw4 hq4)
      generalize wr.heap.size = b9 at f4 f5 ⊢
      obtain ⟨D, hD⟩ : ∃ D, D = max (x4 - x) (x - x4) := ⟨_, rfl⟩
      have hDD : D = distI x x4 := by rw [hD]; unfold distI; split <;> omega
      have hDb : 0 ≤ D ∧ D ≤ 20000 := by rw [hD]; omega
      have hP := mul_bd (x := D) (y := x5) (a := 20000) (b := 1073741824) hDb.1 hDb.2 (by omega) hg2
      have hcm : x5 * D = D * x5 := Int.mul_comm _ _
      obtain ⟨P, hPP⟩ : ∃ P, P = D * x5 := ⟨_, rfl⟩
      rw [← hPP] at hP hcm
      have HN : Aside0 (z + P = costD (fun k => rdF fs (rd xs k)) 0 x (e + 1).toNat) := ⟨by rw [HCE.out, ← hDD, hcm]⟩
      obtain ⟨hP0, hP1⟩ := hP
      clear HCE hDD hDb hcm al B9 hw4 hq4 HX
      have hD2 := hD.symm
      have hP2 := hPP.symm
      clear hD hPP
      go_wp2_with fail
      go_roundw
      case rel => exact ⟨e + 1, z + P, by go_num, by go_num, by omega, by omega, HN, ⟨H9.out.1, H9.out.2⟩⟩
      case measure => simp [intOf]; omega
    · have hed : e = d := by omega
      have HED : Aside0 (z = costD (fun k => rdF fs (rd xs k)) 0 x d) := ⟨by rw [HX.out, hed, Int.toNat_natCast]⟩
      clear hed HX
      go_wp2_with fail
      go_ret
      exact ⟨by rw [HED.out]; rfl, HW.out.1⟩
end Go.Proofs.Ythkfahkkcjagdaa

/- A plan's lines: where they begin, what they cost, and that no other centre costs less. -/
import Derived.Test.YthkfahkkcjagdaaE4
namespace Go.Proofs.Ythkfahkkcjagdaa

section
variable {s : Nat → Fl} {least p : Int} {n : Nat}
theorem massD_add (i a : Nat) : ∀ b, massD s i (a + b) = massD s i a + massD s (i + a) b
  | 0 => by simp [massD]
  | b + 1 => by
    show massD s i (a + b) + (s (i + (a + b))).gr = massD s i a + (massD s (i + a) b + (s (i + a + b)).gr)
    rw [massD_add i a b, show i + (a + b) = i + a + b by omega]; omega
theorem costD_add (i : Nat) (m : Int) (a : Nat) : ∀ b, costD s i m (a + b) = costD s i m a + costD s (i + a) m b
  | 0 => by simp [costD]
  | b + 1 => by
    show costD s i m (a + b) + (s (i + (a + b))).gr * distI m (s (i + (a + b))).mic = costD s i m a + (costD s (i + a) m b + (s (i + a + b)).gr * distI m (s (i + a + b)).mic)
    rw [costD_add i m a b, show i + (a + b) = i + a + b by omega]; omega
/-- A centre that lies t aside costs at most t for each gram more. -/
theorem costD_lip {x m t : Int} (h1 : m - x ≤ t) (h2 : x - m ≤ t) (i : Nat) : ∀ d, (∀ k, k < d → 0 ≤ (s (i + k)).gr) → costD s i m d ≤ costD s i x d + t * massD s i d
  | 0, _ => by simp [costD, massD]
  | d + 1, h => by
    have h3 := costD_lip h1 h2 i d (fun k hk => h k (by omega))
    have h4 := h d (by omega)
    unfold costD massD
    have e : distI m (s (i + d)).mic ≤ distI x (s (i + d)).mic + t := by unfold distI; split <;> split <;> omega
    have e2 := Int.mul_le_mul_of_nonneg_left e h4
    grind
/-- A centre that lies ahead of all. -/
theorem costD_high {a b : Int} (hab : a ≤ b) (i : Nat) : ∀ d, (∀ k, k < d → b ≤ (s (i + k)).mic) → costD s i a d = costD s i b d + (b - a) * massD s i d
  | 0, _ => by simp [costD, massD]
  | d + 1, h => by
    have h1 := costD_high hab i d (fun k hk => h k (by omega))
    have h2 := h d (by omega)
    unfold costD massD
    rw [h1]
    have e1 : distI a (s (i + d)).mic = (s (i + d)).mic - a := by unfold distI; split <;> omega
    have e2 : distI b (s (i + d)).mic = (s (i + d)).mic - b := by unfold distI; split <;> omega
    rw [e1, e2]
    grind
/-- The weighted median is a best centre. -/
theorem cen_best (h : SOK s n) (hs : SRT s n) {i d : Nat} (hd : 0 < d) (hn : i + d ≤ n) (hk : okR s p i d = true) (x : Int) : costD s i (cen s i d) d ≤ costD s i x d := by
  obtain ⟨h1, h2, h3⟩ := med_spec h hd hn
  obtain ⟨c, hc⟩ : ∃ c, c = med s i d := ⟨_, rfl⟩
  unfold cen
  rw [← hc] at h1 h2 h3 ⊢
  obtain ⟨m, hm⟩ : ∃ m, m = (s (i + c)).mic := ⟨_, rfl⟩
  rw [← hm]
  have hgr : ∀ a, i + a < n → 0 ≤ (s (i + a)).gr := fun a ha => by have := (h (i + a) ha).2; omega
  rcases Int.le_total m x with hx | hx
  · have e1 := costD_low hx (i := i) (c + 1) (fun k hk2 => by rw [hm]; exact run_mono hs hn hk (by omega) h3)
    have e2 := costD_lip (s := s) (x := x) (m := m) (t := x - m) (by omega) (by omega) (i + (c + 1)) (d - (c + 1)) (fun k hk2 => by rw [Nat.add_assoc]; exact hgr _ (by omega))
    have e3 := costD_add (s := s) i m (c + 1) (d - (c + 1))
    have e4 := costD_add (s := s) i x (c + 1) (d - (c + 1))
    have e5 := massD_add (s := s) i (c + 1) (d - (c + 1))
    rw [show c + 1 + (d - (c + 1)) = d by omega] at e3 e4 e5
    have e6 := Int.mul_nonneg (show 0 ≤ x - m by omega) (show 0 ≤ 2 * massD s i (c + 1) - massD s i d by omega)
    have r : (x - m) * (2 * massD s i (c + 1) - massD s i d) = (x - m) * massD s i (c + 1) - (x - m) * massD s (i + (c + 1)) (d - (c + 1)) := by
      rw [← Int.mul_sub, e5, show 2 * massD s i (c + 1) - (massD s i (c + 1) + massD s (i + (c + 1)) (d - (c + 1))) = massD s i (c + 1) - massD s (i + (c + 1)) (d - (c + 1)) by omega]
    rw [r] at e6
    omega
  · have e1 := costD_high hx (s := s) (i + c) (d - c) (fun k hk2 => by rw [hm, Nat.add_assoc]; exact run_mono hs hn hk (by omega) (by omega))
    have e2 := costD_lip (s := s) (x := x) (m := m) (t := m - x) (by omega) (by omega) i c (fun k hk2 => hgr _ (by omega))
    have e3 := costD_add (s := s) i m c (d - c)
    have e4 := costD_add (s := s) i x c (d - c)
    have e5 := massD_add (s := s) i c (d - c)
    rw [show c + (d - c) = d by omega] at e3 e4 e5
    have e7 : 2 * massD s i c ≤ massD s i d := by
      rcases Nat.eq_zero_or_pos c with h0 | h0
      · rw [h0]
        have : 0 ≤ massD s i d := by have := (massD_bd h i d hn).1; omega
        simpa [massD] using this
      · have := h1 (c - 1) (by omega)
        rw [show c - 1 + 1 = c by omega] at this
        omega
    have e6 := Int.mul_nonneg (show 0 ≤ m - x by omega) (show 0 ≤ massD s i d - 2 * massD s i c by omega)
    have r : (m - x) * (massD s i d - 2 * massD s i c) = (m - x) * massD s (i + c) (d - c) - (m - x) * massD s i c := by
      rw [← Int.mul_sub, e5, show massD s i c + massD s (i + c) (d - c) - 2 * massD s i c = massD s (i + c) (d - c) - massD s i c by omega]
    rw [r] at e6
    omega
theorem runL_le {i : Nat} : ∀ (m d : Nat), d ≤ m → okR s p i d = true → d ≤ runL s p i m
  | 0, d, h, _ => by omega
  | m + 1, d, h, hk => by
    unfold runL
    split
    · exact h
    · rename_i h1
      rcases Nat.lt_or_ge m d with h2 | h2
      · rw [show d = m + 1 by omega] at hk; exact absurd hk h1
      · exact runL_le m d h2 hk
/-- What a line of a plan holds. -/
theorem line_cells {i d : Nat} (hd : 1 ≤ d) (hn : i + d ≤ n) (h : cO s least p i d ≠ none) :
    okR s p i d = true ∧ least ≤ massD s i d ∧ (erowF s p n i).getD (i + d) 0 = cen s i d ∧ (crowF s least p n i).getD (i + d) 0 = costD s i (cen s i d) d ∧ cO s least p i d = some (costD s i (cen s i d) d) := by
  have h1 : okR s p i d = true ∧ least ≤ massD s i d := by
    unfold cO at h
    split at h
    · assumption
    · exact absurd rfl h
  have h2 : cO s least p i d = some (costD s i (cen s i d) d) := by unfold cO; rw [if_pos h1]
  refine ⟨h1.1, h1.2, ?_, ?_, h2⟩
  · unfold erowF
    have := runL_le (s := s) (p := p) (i := i) (n - i) d (by omega) h1.1
    rw [erow_get _ _ _ _ hn, if_pos (by omega), show i + d - i = d by omega]
  · unfold crowF
    rw [crow_get _ _ _ _ _ _ hn, if_pos (by omega), show i + d - i = d by omega, h2]
    rfl
/-- The lines of a plan follow each other. -/
theorem plan_at : ∀ (k i j : Nat) (x : Nat × Nat), (planF s least p n k i)[j]? = some x → x.1 = i + (((planF s least p n k i).take j).map (·.2)).sum
  | 0, i, j, x, h => by simp [planF] at h
  | k + 1, i, 0, x, h => by
    rw [planF, List.getElem?_cons_zero] at h
    cases h
    simp
  | k + 1, i, j + 1, x, h => by
    rw [planF, List.getElem?_cons_succ] at h
    rw [plan_at k _ j x h, planF, List.take_succ_cons, List.map_cons, List.sum_cons]
    show i + cutD s least p n k i + 1 + _ = i + (cutD s least p n k i + 1 + _)
    omega
theorem plan_len : ∀ (k i : Nat), i ≤ n → restO s least p n k i ≠ none → ((planF s least p n k i).map (·.2)).sum = n - i
  | 0, i, hi, h => by
    unfold restO at h
    have : i = n := by
      by_cases e : i = n
      · exact e
      · rw [if_neg e] at h; exact absurd rfl h
    subst this
    simp [planF]
  | k + 1, i, hi, h => by
    have h1 := cut_ok h
    rw [planF, List.map_cons, List.sum_cons, plan_len k _ (by omega) (cut_some h).2]
    show cutD s least p n k i + 1 + _ = _
    omega
theorem plan_cost : ∀ (k i : Nat), i ≤ n → restO s least p n k i ≠ none → restO s least p n k i = some ((planF s least p n k i).map fun x => costD s x.1 (cen s x.1 x.2) x.2).sum
  | 0, i, hi, h => by
    unfold restO at h ⊢
    have : i = n := by
      by_cases e : i = n
      · exact e
      · rw [if_neg e] at h; exact absurd rfl h
    rw [if_pos this]
    simp [planF]
  | k + 1, i, hi, h => by
    have h1 := cut_ok h
    have h2 := cut_some h
    have h3 := h1.1
    unfold isD at h3
    rw [decide_eq_true_eq] at h3
    rw [planF, List.map_cons, List.sum_cons, ← h3]
    have h4 := line_cells (n := n) (by omega) (by omega) h2.1
    have h5 := plan_cost k _ (by omega) h2.2
    rw [show i + cutD s least p n k i + 1 = i + (cutD s least p n k i + 1) by omega] at h5 ⊢
    rw [h4.2.2.2.2, h5]
    rfl
end
end Go.Proofs.Ythkfahkkcjagdaa
namespace Go.Proofs.Ythkfahkkcjagdaa
open Go.RowKit Go.Proofs.YthkfahkkcjagdaaW.PrintWords Go.Proofs.YthkfahkkcjagdaaW.PrintMore Go.Proofs.YthkfahkkcjagdaaW.PrintLast
attribute [local go_sem] max2_int min2_int

theorem own_ints_C {w : World} {N g d cap : Nat} {xs : List Int} (h : w.ownsRow N 3 1 (.slice (some ⟨g, 0, none⟩) d cap) d (ints xs)) (hx : xs.length = d) (hd : d ≤ 9223372036854775807) : (Kd.int .i64).C w (some ⟨g, 0, none⟩) d xs := by
  refine ⟨hx, hd, fun _ => ⟨_, rfl, fun j p hp => ⟨[.int .i64 p], rfl, rfl, fun i u hi => ?_⟩⟩⟩
  have hj : j < xs.length := (List.getElem?_eq_some_iff.1 hp).1
  cases i with
  | zero =>
    simp only [List.getElem?_cons_zero, Option.some.injEq] at hi
    subst hi
    rcases h.2 with ⟨h1, _⟩ | ⟨g', cap', cur, h1, hg, hh, h2, h3, h4, h5⟩
    · cases h1
    · cases h1
      have e1 := ints_get xs hj
      have e2 := congrArg (fun x => x[j]?) h5
      rw [List.getElem?_take, if_pos (by omega), Array.getElem?_toList, e1] at e2
      rw [add_plain]
      have hp2 : xs.getD j 0 = p := by rw [List.getD_eq_getElem?_getD, hp]; rfl
      rw [hp2] at e2
      have e3 : (Kd.int IntKind.i64).sz = 1 := rfl
      simp [World.cell?, hh, e2, e3]
  | succ i => simp at hi
theorem costD_congr {s t : Nat → Fl} {i j : Nat} {x : Int} : ∀ d, (∀ k, k < d → s (i + k) = t (j + k)) → costD s i x d = costD t j x d
  | 0, _ => rfl
  | d + 1, h => by
    show costD s i x d + _ = costD t j x d + _
    rw [costD_congr d (fun k hk => h k (by omega)), h d (by omega)]
theorem costX_bd {s : Nat → Fl} {n : Nat} (h : SOK s n) (i : Nat) {m : Int} (hm : 0 ≤ m ∧ m ≤ 20000) : ∀ d, i + d ≤ n → 0 ≤ costD s i m d ∧ costD s i m d ≤ d * 21474836480000
  | 0, _ => by simp [costD]
  | d + 1, hd => by
    have h1 := costX_bd h i hm d (by omega)
    have h2 := h (i + d) (by omega)
    have h3 : 0 ≤ distI m (s (i + d)).mic ∧ distI m (s (i + d)).mic ≤ 20000 := by unfold distI; split <;> omega
    have h4 := mul_bd (x := (s (i + d)).gr) (a := 1073741824) (by omega) h2.2.2 h3.1 h3.2
    unfold costD
    omega

set_option maxHeartbeats 4000000 in
theorem spent_any (w : World) (A B : Option Addr) (n c d cd : Nat) (fs : List Fl) (xs : List Int) (x k0 k1 k2 k3 M ce co : Int) (h : kF.C w A n fs) (hr : (Kd.int .i64).C w B d xs) (hm : ∀ z ∈ xs, 0 ≤ z ∧ z < n) (ha : fs.all flOK = true) (hn : fs.length = n) (hd : d ≤ 128) (hx : 0 ≤ x ∧ x ≤ 20000) :
    Calls Try.prog 21 #[.slice A n c, .agg #[.int .u8 k0, .int .u8 k1, .int .u8 k2, .int .u8 k3, .slice B d cd, .int .i64 M, .int .i64 ce, .int .i64 co], .int .i64 x] w fun e w' => e = .returned (.int .i64 (costD (fun k => rdF fs (rd xs k)) 0 x d)) ∧ Below w.heap.size w w' := by
  obtain ⟨hx0, hx1⟩ := hx
  have hso : SOK (fun k => rdF fs (rd xs k)) d := by
    intro k hk
    have h1 := hm (rd xs k) (by
      unfold rd
      rw [Int.toNat_natCast]
      exact getD_mem (by rw [Kd.C_len hr]; exact hk))
    have h2 := all_rd ha (x := rd xs k) h1.1 (by rw [hn]; exact h1.2)
    unfold flOK at h2
    rw [decide_eq_true_eq] at h2
    exact ⟨⟨h2.1, h2.2.1⟩, h2.2.2.1, h2.2.2.2⟩
  have HSO := Aside0.mk hso; clear hso
  have b1 := below_alloc (Below.refl w.heap.size w) (.cells #[.int .u8 k0, .int .u8 k1, .int .u8 k2, .int .u8 k3, .slice B d cd, .int .i64 M, .int .i64 ce, .int .i64 co] 37)
  have q1 := Blk.new w [.int .u8 k0, .int .u8 k1, .int .u8 k2, .int .u8 k3, .slice B d cd, .int .i64 M, .int .i64 ce, .int .i64 co] 37
  obtain ⟨w1, hw1⟩ : ∃ z, z = w.alloc (.cells #[.int .u8 k0, .int .u8 k1, .int .u8 k2, .int .u8 k3, .slice B d cd, .int .i64 M, .int .i64 ce, .int .i64 co] 37) := ⟨_, rfl⟩
  have HC := Aside0.mk (And.intro h (And.intro hr (And.intro hm (And.intro ha hn))))
  clear h hr hm ha hn
  go_enter Try.func21, Try.ntmps21
  go_upto_region 2 with fail
  rw [← hw1] at b1 q1 ⊢
  have H1 := Aside0.mk (And.intro b1 q1)
  clear b1 q1 hw1
  obtain ⟨b4, hb4⟩ : ∃ z, z = w.heap.size := ⟨_, rfl⟩
  rw [← hb4] at H1 ⊢
  have HB4 := Aside0.mk hb4; clear hb4
  go_wp2_with fail
  go_loopw [7, 8, 9] (fun v7 v8 _ wr => ∃ (e : Int) (z : Int), v7 = .int .i64 z ∧ v8 = .int .i64 e ∧ 0 ≤ e ∧ e ≤ d ∧ Aside0 (z = costD (fun k => rdF fs (rd xs k)) 0 x e.toNat) ∧ Aside0 (Below w.heap.size w wr ∧ Blk wr b4 [.int .u8 k0, .int .u8 k1, .int .u8 k2, .int .u8 k3, .slice B d cd, .int .i64 M, .int .i64 ce, .int .i64 co] 37)) (fun _ v8 _ _ => d - (intOf v8).toNat)
  case atStart => exact ⟨0, 0, rfl, rfl, by omega, by omega, ⟨rfl⟩, ⟨by have := H1.out.1; rwa [HB4.out] at this, H1.out.2⟩⟩
  case round =>
    obtain ⟨e, z, rfl, rfl, he0, he, HX, HW⟩ := hrel
    have hzb := costX_bd HSO.out 0 ⟨hx0, hx1⟩ e.toNat (by omega)
    rw [← HX.out] at hzb
    obtain ⟨hz0, hz1⟩ := hzb
    have s4 := HW.out.2.at_ (i := 4) rfl
    by_cases hlt : e < d
    · obtain ⟨aB, eB, g⟩ := Kd.at_int (Kd.C_below HC.out.2.1 HW.out.1) e he0 hlt
      subst eB
      have hm := HC.out.2.2.1 (rd xs e) (by
        unfold rd
        exact getD_mem (by rw [Kd.C_len HC.out.2.1]; omega))
      have hso := HSO.out e.toNat (by omega)
      have hre : rd xs (e.toNat : Int) = rd xs e := by unfold rd; rw [Int.toNat_natCast]
      have hce : costD (fun k => rdF fs (rd xs k)) 0 x (e + 1).toNat = z + (rdF fs (rd xs e)).gr * distI x (rdF fs (rd xs e)).mic := by
        rw [show (e + 1).toNat = e.toNat + 1 by omega]
        show costD _ 0 x e.toNat + (rdF fs (rd xs ((0 + e.toNat : Nat) : Int))).gr * distI x (rdF fs (rd xs ((0 + e.toNat : Nat) : Int))).mic = _
        rw [Nat.zero_add, hre, ← HX.out]
      dsimp only at hso
      rw [hre] at hso
      obtain ⟨q, hq⟩ : ∃ q, q = rd xs e := ⟨_, rfl⟩
      rw [← hq] at hm hso hce g
      obtain ⟨hq0, hq1⟩ := hm
      obtain ⟨ad, e1, g0, g1, g2, g3, g4, g5⟩ := at_F (Kd.C_below HC.out.1 HW.out.1) q hq0 hq1
      subst e1
      obtain ⟨f, hf⟩ : ∃ z, z = rdF fs q := ⟨_, rfl⟩
      rw [← hf] at g0 g1 g2 g3 g4 g5 hso hce
      have HCE := Aside0.mk hce; clear hce hf hq hre
      obtain ⟨x0, x1, x2, x3, x4, x5⟩ := f
      dsimp only at g0 g1 g2 g3 g4 g5 hso
      obtain ⟨⟨hm1, hm2⟩, hg1, hg2⟩ := hso
      go_upto_region 6 with fail
      have al := below_alloc (Below.refl wr.heap.size wr) (.cells #[.int .u8 x0, .int .u8 x1, .int .u8 x2, .int .u8 x3, .int .i64 x4, .int .i64 x5] 44)
      have B9 := Blk.new wr [.int .u8 x0, .int .u8 x1, .int .u8 x2, .int .u8 x3, .int .i64 x4, .int .i64 x5] 44
      generalize (wr.alloc (.cells #[.int .u8 x0, .int .u8 x1, .int .u8 x2, .int .u8 x3, .int .i64 x4, .int .i64 x5] 44)) = w9 at al B9 ⊢
      have f4 := B9.at_ (i := 4) rfl
      have f5 := B9.at_ (i := 5) rfl
      have hw4 := below_step HW.out.1 al
      have hq4 := HW.out.2.below al
      have H9 := Aside0.mk (And.intro hw4 hq4)
      generalize wr.heap.size = b9 at f4 f5 ⊢
      obtain ⟨D, hD⟩ : ∃ D, D = max (x4 - x) (x - x4) := ⟨_, rfl⟩
      have hDD : D = distI x x4 := by rw [hD]; unfold distI; split <;> omega
      have hDb : 0 ≤ D ∧ D ≤ 20000 := by rw [hD]; omega
      have hP := mul_bd (x := D) (y := x5) (a := 20000) (b := 1073741824) hDb.1 hDb.2 (by omega) hg2
      have hcm : x5 * D = D * x5 := Int.mul_comm _ _
      obtain ⟨P, hPP⟩ : ∃ P, P = D * x5 := ⟨_, rfl⟩
      rw [← hPP] at hP hcm
      have HN : Aside0 (z + P = costD (fun k => rdF fs (rd xs k)) 0 x (e + 1).toNat) := ⟨by rw [HCE.out, ← hDD, hcm]⟩
      obtain ⟨hP0, hP1⟩ := hP
      clear HCE hDD hDb hcm al B9 hw4 hq4 HX
      have hD2 := hD.symm
      have hP2 := hPP.symm
      clear hD hPP
      go_wp2_with fail
      go_roundw
      case rel => exact ⟨e + 1, z + P, by go_num, by go_num, by omega, by omega, HN, ⟨H9.out.1, H9.out.2⟩⟩
      case measure => simp [intOf]; omega
    · have hed : e = d := by omega
      have HED : Aside0 (z = costD (fun k => rdF fs (rd xs k)) 0 x d) := ⟨by rw [HX.out, hed, Int.toNat_natCast]⟩
      clear hed HX
      go_wp2_with fail
      go_ret
      exact ⟨by rw [HED.out]; rfl, HW.out.1⟩
end Go.Proofs.Ythkfahkkcjagdaa

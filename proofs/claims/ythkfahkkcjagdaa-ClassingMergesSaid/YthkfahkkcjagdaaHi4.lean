/- What ClassingMerges answers: the plain law of means, and the walk. -/
import Derived.Test.YthkfahkkcjagdaaHi3
import Derived.Test.YthkfahkkcjagdaaWGuard
namespace Go.Proofs.Ythkfahkkcjagdaa
open Go.RowKit Go.Proofs.YthkfahkkcjagdaaW.PrintWords Go.Proofs.YthkfahkkcjagdaaW.PrintMore Go.Proofs.YthkfahkkcjagdaaW.PrintLast
attribute [local go_sem] max2_int min2_int

theorem evenF_spec {a b : Int} (hb : 0 < b) : (2 * evenF a b - 1) * b ≤ 2 * a ∧ 2 * a ≤ (2 * evenF a b + 1) * b ∧ (2 * a = (2 * evenF a b - 1) * b → evenF a b % 2 = 0) ∧ (2 * a = (2 * evenF a b + 1) * b → evenF a b % 2 = 0) := by
  have h1 := Int.mul_ediv_add_emod a b
  have h2 := Int.emod_nonneg a (show b ≠ 0 by omega)
  have h3 := Int.emod_lt_of_pos a hb
  unfold evenF
  generalize a / b = q at *
  generalize a % b = m at *
  have e1 : (2 * q - 1) * b = 2 * (b * q) - b := by rw [Int.sub_mul, Int.one_mul, Int.mul_assoc, Int.mul_comm q b]
  have e2 : (2 * q + 1) * b = 2 * (b * q) + b := by rw [Int.add_mul, Int.one_mul, Int.mul_assoc, Int.mul_comm q b]
  have e3 : (2 * (q + 1) - 1) * b = 2 * (b * q) + b := by rw [show 2 * (q + 1) - 1 = 2 * q + 1 by omega]; exact e2
  have e4 : (2 * (q + 1) + 1) * b = 2 * (b * q) + 3 * b := by rw [show 2 * (q + 1) + 1 = 2 * q + 3 by omega, Int.add_mul, Int.mul_assoc, Int.mul_comm q b]
  generalize b * q = P at *
  split
  · rw [e3, e4]
    refine ⟨by omega, by omega, fun h => by omega, fun h => by omega⟩
  · rw [e1, e2]
    refine ⟨by omega, by omega, fun h => by omega, fun h => by omega⟩
theorem evenF_mono {a b c d : Int} (hb : 0 < b) (hd : 0 < d) (h : a * d ≤ c * b) : evenF a b ≤ evenF c d := by
  obtain ⟨s1, _, s3, _⟩ := evenF_spec (a := a) hb
  obtain ⟨_, t2, _, t4⟩ := evenF_spec (a := c) hd
  generalize evenF a b = E at *
  generalize evenF c d = F at *
  refine Int.not_lt.1 fun hlt => ?_
  have k1 := Int.mul_le_mul_of_nonneg_right s1 (Int.le_of_lt hd)
  have k2 := Int.mul_le_mul_of_nonneg_right t2 (Int.le_of_lt hb)
  have hN : 0 < b * d := Int.mul_pos hb hd
  have m1 : (2 * E - 1) * b * d = (2 * E - 1) * (b * d) := Int.mul_assoc _ _ _
  have m2 : (2 * F + 1) * d * b = (2 * F + 1) * (b * d) := by rw [Int.mul_assoc, Int.mul_comm d b]
  have m3 : 2 * a * d = 2 * (a * d) := Int.mul_assoc _ _ _
  have m4 : 2 * c * b = 2 * (c * b) := Int.mul_assoc _ _ _
  rw [m1, m3] at k1
  rw [m2, m4] at k2
  have k3 : (2 * E - 1) * (b * d) ≤ (2 * F + 1) * (b * d) := by omega
  have k4 : 2 * E - 1 ≤ 2 * F + 1 := Int.le_of_mul_le_mul_right k3 hN
  have hE : E = F + 1 := by omega
  subst hE
  rw [show 2 * (F + 1) - 1 = 2 * F + 1 by omega] at k1 s3 m1
  have q1 : 2 * a = (2 * F + 1) * b := by
    refine Int.eq_of_mul_eq_mul_right (show d ≠ 0 by omega) ?_
    rw [m1, m3]
    omega
  have q2 : 2 * c = (2 * F + 1) * d := by
    refine Int.eq_of_mul_eq_mul_right (show b ≠ 0 by omega) ?_
    rw [m2, m4]
    omega
  have r1 := s3 q1
  have r2 := t4 q2
  omega
theorem mean_between {o1 o2 n m : Int} (hn : 0 < n) (hm : 0 < m) : min (evenF (o1 * 100) n) (evenF (o2 * 100) m) ≤ evenF ((o1 + o2) * 100) (n + m) ∧ evenF ((o1 + o2) * 100) (n + m) ≤ max (evenF (o1 * 100) n) (evenF (o2 * 100) m) := by
  have c1 : o1 * 100 * (n + m) = 100 * (o1 * n) + 100 * (o1 * m) := by grind
  have c2 : o2 * 100 * (n + m) = 100 * (o2 * n) + 100 * (o2 * m) := by grind
  have c3 : (o1 + o2) * 100 * n = 100 * (o1 * n) + 100 * (o2 * n) := by grind
  have c4 : (o1 + o2) * 100 * m = 100 * (o1 * m) + 100 * (o2 * m) := by grind
  rcases Int.le_total (o1 * m) (o2 * n) with h | h
  · have h1 := evenF_mono (a := o1 * 100) (b := n) (c := (o1 + o2) * 100) (d := n + m) hn (by omega) (by rw [c1, c3]; omega)
    have h2 := evenF_mono (a := (o1 + o2) * 100) (b := n + m) (c := o2 * 100) (d := m) (by omega) hm (by rw [c2, c4]; omega)
    omega
  · have h1 := evenF_mono (a := o2 * 100) (b := m) (c := (o1 + o2) * 100) (d := n + m) hm (by omega) (by rw [c2, c4]; omega)
    have h2 := evenF_mono (a := (o1 + o2) * 100) (b := n + m) (c := o1 * 100) (d := n) (by omega) hn (by rw [c1, c3]; omega)
    omega
theorem mrgE_comm (xs ys : List Int) : mrgE ys xs = mrgE xs ys := by
  unfold mrgE
  rw [Int.add_comm ys.sum xs.sum]
  by_cases h : totB xs = true ∧ totB ys = true
  · rw [if_pos h, if_pos ⟨h.2, h.1⟩]
  · rw [if_neg h, if_neg (fun k => h ⟨k.2, k.1⟩)]
theorem mrgR_comm (xs ys : List Int) : mrgR ys xs = mrgR xs ys := by
  unfold mrgR
  rw [mrgE_comm, mrg_comm]
theorem mrgE_zero {xs ys : List Int} (h : mrgE xs ys = 0) : totB xs = true ∧ totB ys = true ∧ xs.sum + ys.sum ≤ 1048576 := by
  unfold mrgE at h
  split at h
  · rename_i h1
    split at h
    · omega
    · exact ⟨h1.1, h1.2, by omega⟩
  · omega
theorem mrgE_mk {xs ys : List Int} (h1 : totB xs = true) (h2 : totB ys = true) (h3 : xs.sum + ys.sum ≤ 1048576) : mrgE xs ys = 0 := by
  unfold mrgE
  rw [if_pos ⟨h1, h2⟩, if_neg (by omega)]
/-- Merged from the left is merged from the right. -/
theorem mrg_right {xs ys zs : List Int} (hx : xs.length = 64) (hy : ys.length = 64) (hz : zs.length = 64) (h : mrgE xs ys = 0) (h2 : mrgE (mrg xs ys) zs = 0) : mrgE ys zs = 0 ∧ mrgE xs (mrgR ys zs) = 0 ∧ mrgR xs (mrgR ys zs) = mrgR (mrg xs ys) zs := by
  obtain ⟨a1, a2, a3⟩ := mrgE_zero h
  obtain ⟨_, b2, b3⟩ := mrgE_zero h2
  rw [mrg_sum hx hy] at b3
  have p1 := tot_bd xs a1
  have p2 := tot_bd ys a2
  have p3 := tot_bd zs b2
  have e1 : mrgE ys zs = 0 := mrgE_mk a2 b2 (by omega)
  have e2 : mrgR ys zs = mrg ys zs := by unfold mrgR; rw [if_pos e1]
  have e3 : mrgE xs (mrg ys zs) = 0 := mrgE_mk a1 (mrg_totB hy hz a2 b2 (by omega)) (by rw [mrg_sum hy hz]; omega)
  refine ⟨e1, by rw [e2]; exact e3, ?_⟩
  rw [e2]
  unfold mrgR
  rw [if_pos e3, if_pos h2, mrg_assoc]
/-- The mean of both lies between the means. -/
theorem mrg_mean {xs ys : List Int} (hx : xs.length = 64) (hy : ys.length = 64) (h : mrgE xs ys = 0) (h1 : cntE xs = 0) (h2 : cntE ys = 0) : cntE (mrg xs ys) = 0 ∧ min (micV xs) (micV ys) ≤ micV (mrg xs ys) ∧ micV (mrg xs ys) ≤ max (micV xs) (micV ys) := by
  obtain ⟨a1, a2, a3⟩ := mrgE_zero h
  obtain ⟨_, b2, _⟩ := cntE_zero h1
  obtain ⟨_, c2, _⟩ := cntE_zero h2
  have e : cntE (mrg xs ys) = 0 := by
    unfold cntE
    rw [if_pos (mrg_totB hx hy a1 a2 a3), mrg_sum hx hy, if_neg (by omega)]
  refine ⟨e, ?_⟩
  unfold micV
  rw [if_pos h1, if_pos h2, if_pos e, mrg_sum hx hy, mrg_one 64 (Nat.le_refl _)]
  exact mean_between (by omega) (by omega)
theorem cnt_of {xs : List Int} (h : totB xs = true) : (cntE xs = 0 ∧ 0 < xs.sum) ∨ (cntE xs = 5 ∧ xs.sum = 0) := by
  have := tot_bd xs h
  unfold cntE
  rw [if_pos h]
  by_cases h0 : xs.sum = 0
  · rw [if_pos h0]; exact .inr ⟨rfl, h0⟩
  · rw [if_neg h0]; exact .inl ⟨rfl, by omega⟩
theorem tot_of {xs : List Int} (h : totB xs = true) : totV xs = xs.sum ∧ totE xs = 0 := by
  unfold totV totE
  rw [if_pos h, if_pos h]
  exact ⟨rfl, rfl⟩
/-- Three histograms in memory. -/
structure M3 (w : World) (b : Nat) (xs ys zs : List Int) (W : World) : Prop where
  bel : Below w.heap.size w W
  x : Blk W b (ints xs) 67
  y : Blk W (b + 1) (ints ys) 67
  z : Blk W (b + 1 + 1) (ints zs) 67
theorem M3.below {w : World} {b : Nat} {xs ys zs : List Int} {W W' : World} (h : M3 w b xs ys zs W) (k : Below W.heap.size W W') : M3 w b xs ys zs W' :=
  ⟨below_step h.bel k, h.x.below k, h.y.below k, h.z.below k⟩
theorem eq_zero_lit (W : World) : (Op.equalIn 10000 67 (.agg (ints hZ).toArray) (.agg #[.int .i64 0, .int .i64 0, .int .i64 0, .int .i64 0, .int .i64 0, .int .i64 0, .int .i64 0, .int .i64 0, .int .i64 0, .int .i64 0, .int .i64 0, .int .i64 0, .int .i64 0, .int .i64 0, .int .i64 0, .int .i64 0, .int .i64 0, .int .i64 0, .int .i64 0, .int .i64 0, .int .i64 0, .int .i64 0, .int .i64 0, .int .i64 0, .int .i64 0, .int .i64 0, .int .i64 0, .int .i64 0, .int .i64 0, .int .i64 0, .int .i64 0, .int .i64 0, .int .i64 0, .int .i64 0, .int .i64 0, .int .i64 0, .int .i64 0, .int .i64 0, .int .i64 0, .int .i64 0, .int .i64 0, .int .i64 0, .int .i64 0, .int .i64 0, .int .i64 0, .int .i64 0, .int .i64 0, .int .i64 0, .int .i64 0, .int .i64 0, .int .i64 0, .int .i64 0, .int .i64 0, .int .i64 0, .int .i64 0, .int .i64 0, .int .i64 0, .int .i64 0, .int .i64 0, .int .i64 0, .int .i64 0, .int .i64 0, .int .i64 0, .int .i64 0])).run Try.prog W = .ok true W := by
  rw [z64, hist_eql W hZ_len hZ_len, decide_eq_true rfl]

set_option maxHeartbeats 16000000 in
set_option maxRecDepth 100000 in
theorem merges_any (w : World) (xs ys zs : List Int) (hx : xs.length = 64) (hy : ys.length = 64) (hz : zs.length = 64) :
    Calls Try.prog 10 #[.agg (ints xs).toArray, .agg (ints ys).toArray, .agg (ints zs).toArray] w fun e w' => e = .returned (.bool true) ∧ Below w.heap.size w w' := by
  have b3 := below_alloc (below_alloc (below_alloc (Below.refl w.heap.size w) (.cells (ints xs).toArray 67)) (.cells (ints ys).toArray 67)) (.cells (ints zs).toArray 67)
  have q1 := ((Blk.new w (ints xs) 67).alloc (.cells (ints ys).toArray 67)).alloc (.cells (ints zs).toArray 67)
  have q2 := (Blk.new (w.alloc (.cells (ints xs).toArray 67)) (ints ys) 67).alloc (.cells (ints zs).toArray 67)
  have q3 := Blk.new ((w.alloc (.cells (ints xs).toArray 67)).alloc (.cells (ints ys).toArray 67)) (ints zs) 67
  have e1 : (w.alloc (.cells (ints xs).toArray 67)).heap.size = w.heap.size + 1 := by simp
  have e2 : ((w.alloc (.cells (ints xs).toArray 67)).alloc (.cells (ints ys).toArray 67)).heap.size = w.heap.size + 1 + 1 := by simp
  rw [e1] at q2
  rw [e2] at q3
  have H3 := Aside0.mk (M3.mk b3 q1 q2 q3)
  clear b3 q1 q2 q3 e1 e2
  have HAL := Aside0.mk alive_any
  have hRl := mrgR_len xs ys
  have hm1 := fun W => hmerge_any W xs ys hx hy
  have hm2 := fun W => hmerge_any W ys xs hy hx
  rw [mrgR_comm, mrgE_comm] at hm2
  obtain ⟨R, hR⟩ : ∃ z, z = mrgR xs ys := ⟨_, rfl⟩
  obtain ⟨e1, he1⟩ : ∃ z, z = mrgE xs ys := ⟨_, rfl⟩
  rw [← hR, ← he1] at hm1 hm2
  rw [← hR] at hRl
  have HM1 := Aside0.mk hm1
  have HM2 := Aside0.mk hm2
  have heq : ∀ W, (Op.equalIn 10000 67 (.agg (ints R).toArray) (.agg (ints R).toArray)).run Try.prog W = .ok true W := fun W => by rw [hist_eql W hRl hRl, decide_eq_true rfl]
  have HR := Aside0.mk (And.intro hR he1)
  have HLE := Aside0.mk (And.intro hx (And.intro hy (And.intro hz hRl)))
  have HLX := Aside0.mk (i67l hx)
  have HLY := Aside0.mk (i67l hy)
  have HLZ := Aside0.mk (i67l hz)
  have HLR := Aside0.mk (i67l hRl)
  clear hm1 hm2 hR he1 hx hy hz hRl
  go_enter Try.func10, Try.ntmps10
  go_upto_region 1 with fail
  generalize (((w.alloc (.cells (ints xs).toArray 67)).alloc (.cells (ints ys).toArray 67)).alloc (.cells (ints zs).toArray 67)) = w3 at H3 ⊢
  obtain ⟨b3, hb3⟩ : ∃ z, z = w.heap.size := ⟨_, rfl⟩
  rw [← hb3] at H3 ⊢
  clear hb3
  go_upto_region 2 with (first
    | ((with_reducible refine (HM1.out _).mono ?_); rintro e w4 ⟨rfl, hb4⟩; have H4 := Aside0.mk (H3.out.below hb4); clear hb4)
    | ((with_reducible refine gate_dst (N := 24) rfl ?_); refine wpList_load_mid rfl 67 (.tmp 3) rfl _ _ rfl (ints xs) _ H3.out.x.range Try.underlying67 rfl HLX.out ?_)
    | ((with_reducible refine gate_dst (N := 25) rfl ?_); refine wpList_load_mid rfl 67 (.tmp 4) rfl _ _ rfl (ints ys) _ H3.out.y.range Try.underlying67 rfl HLY.out ?_)
    | ((with_reducible refine gate_dst (N := 7) rfl ?_); refine wpl_new67 rfl rfl 7 rfl rfl rfl (.tmp 7) (.tmp 27) rfl R HLE.out.2.2.2 rfl rfl ?_; intro w5 hb5 hq5; have H5 := Aside0.mk (And.intro (H4.out.below hb5) hq5); clear hb5 hq5))
  clear H3 H4
  obtain ⟨b7, hb7⟩ : ∃ z, z = w4.heap.size := ⟨_, rfl⟩
  rw [← hb7] at H5 ⊢
  clear hb7
  go_upto_region 3 with (first
    | ((with_reducible refine (HM2.out _).mono ?_); rintro e w6 ⟨rfl, hb6⟩; have H6 := Aside0.mk (And.intro (H5.out.1.below hb6) (H5.out.2.below hb6)); clear hb6)
    | ((with_reducible refine gate_dst (N := 31) rfl ?_); refine wpList_load_mid rfl 67 (.tmp 3) rfl _ _ rfl (ints xs) _ H5.out.1.x.range Try.underlying67 rfl HLX.out ?_)
    | ((with_reducible refine gate_dst (N := 30) rfl ?_); refine wpList_load_mid rfl 67 (.tmp 4) rfl _ _ rfl (ints ys) _ H5.out.1.y.range Try.underlying67 rfl HLY.out ?_)
    | ((with_reducible refine gate_dst (N := 9) rfl ?_); refine wpl_new67 rfl rfl 9 rfl rfl rfl (.tmp 9) (.tmp 33) rfl R HLE.out.2.2.2 rfl rfl ?_; intro w7 hb7 hq7; have H7 := Aside0.mk (And.intro (H6.out.1.below hb7) (And.intro (H6.out.2.below hb7) hq7)); clear hb7 hq7))
  clear H5 H6
  obtain ⟨b9, hb9⟩ : ∃ z, z = w6.heap.size := ⟨_, rfl⟩
  rw [← hb9] at H7 ⊢
  clear hb9
  by_cases h0 : e1 = 0
  · subst h0
    have hms := mrgE_zero HR.out.2.symm
    have hRm : R = mrg xs ys := by rw [HR.out.1]; unfold mrgR; rw [if_pos HR.out.2.symm]
    have htR := mrg_totB HLE.out.1 HLE.out.2.1 hms.1 hms.2.1 hms.2.2
    rw [← hRm] at htR
    have hsR : R.sum = xs.sum + ys.sum := by rw [hRm, mrg_sum HLE.out.1 HLE.out.2.1]
    have ht1 := fun W => Total_any W xs HLE.out.1
    have ht2 := fun W => Total_any W ys HLE.out.2.1
    have ht3 := fun W => Total_any W R HLE.out.2.2.2
    rw [(tot_of hms.1).1, (tot_of hms.1).2] at ht1
    rw [(tot_of hms.2.1).1, (tot_of hms.2.1).2] at ht2
    rw [(tot_of htR).1, (tot_of htR).2, hsR] at ht3
    have hd1 := tot_bd xs hms.1
    have hd2 := tot_bd ys hms.2.1
    have hd3 := hms.2.2
    obtain ⟨n, hn⟩ : ∃ z, z = xs.sum := ⟨_, rfl⟩
    obtain ⟨m, hm⟩ : ∃ z, z = ys.sum := ⟨_, rfl⟩
    rw [← hn] at ht1 ht3 hd1 hd3 hsR
    rw [← hm] at ht2 ht3 hd2 hd3 hsR
    have HT1 := Aside0.mk ht1
    have HT2 := Aside0.mk ht2
    have HT3 := Aside0.mk ht3
    have HQ := Aside0.mk (And.intro hms (And.intro hRm (And.intro htR (And.intro hsR (And.intro hn hm)))))
    clear ht1 ht2 ht3 hms hRm htR hsR hn hm
    obtain ⟨hd10, hd11⟩ := hd1
    obtain ⟨hd20, hd21⟩ := hd2
    go_upto_region 8 with (first
      | ((with_reducible refine (HT1.out _).mono ?_); rintro e w8 ⟨rfl, hb8⟩; have H8 := Aside0.mk (And.intro (H7.out.1.below hb8) (H7.out.2.1.below hb8)); clear hb8)
      | ((with_reducible refine gate_dst (N := 35) rfl ?_); refine wpList_load_mid rfl 67 (.tmp 7) rfl _ _ rfl (ints R) _ H7.out.2.1.range Try.underlying67 rfl HLR.out ?_)
      | ((with_reducible refine gate_dst (N := 36) rfl ?_); refine wpList_load_mid rfl 67 (.tmp 9) rfl _ _ rfl (ints R) _ H7.out.2.2.range Try.underlying67 rfl HLR.out ?_)
      | ((with_reducible refine gate_dst (N := 52) rfl ?_); refine wpList_load_mid rfl 67 (.tmp 3) rfl _ _ rfl (ints xs) _ H7.out.1.x.range Try.underlying67 rfl HLX.out ?_))
    clear H7
    go_upto_region 9 with (first
      | ((with_reducible refine (HT2.out _).mono ?_); rintro e w9 ⟨rfl, hb9⟩; have H9 := Aside0.mk (And.intro (H8.out.1.below hb9) (H8.out.2.below hb9)); clear hb9)
      | ((with_reducible refine gate_dst (N := 57) rfl ?_); refine wpList_load_mid rfl 67 (.tmp 4) rfl _ _ rfl (ints ys) _ H8.out.1.y.range Try.underlying67 rfl HLY.out ?_))
    clear H8
    go_upto_region 12 with (first
      | ((with_reducible refine (HT3.out _).mono ?_); rintro e w10 ⟨rfl, hb10⟩; have H10 := Aside0.mk (And.intro (H9.out.1.below hb10) (H9.out.2.below hb10)); clear hb10)
      | ((with_reducible refine gate_dst (N := 62) rfl ?_); refine wpList_load_mid rfl 67 (.tmp 7) rfl _ _ rfl (ints R) _ H9.out.2.range Try.underlying67 rfl HLR.out ?_))
    clear H9
    have hmL := fun W => hmerge_any W R zs HLE.out.2.2.2 HLE.out.2.2.1
    have hmB := fun W => hmerge_any W ys zs HLE.out.2.1 HLE.out.2.2.1
    have hmT := fun W => hmerge_any W xs (mrgR ys zs) HLE.out.1 (mrgR_len ys zs)
    have hlB := mrgR_len ys zs
    have hlL := mrgR_len R zs
    have hlT := mrgR_len xs (mrgR ys zs)
    by_cases hL : mrgE R zs = 0
    · have hr := mrg_right HLE.out.1 HLE.out.2.1 HLE.out.2.2.1 HR.out.2.symm (by rw [← HQ.out.2.1]; exact hL)
      rw [← HQ.out.2.1] at hr
      rw [hL] at hmL
      rw [hr.1] at hmB
      rw [hr.2.1, hr.2.2] at hmT
      clear hr hL hlT
      obtain ⟨L, hLL⟩ : ∃ z, z = mrgR R zs := ⟨_, rfl⟩
      obtain ⟨B, hBB⟩ : ∃ z, z = mrgR ys zs := ⟨_, rfl⟩
      rw [← hLL] at hmL hmT hlL
      rw [← hBB] at hmB hmT hlB
      clear hLL hBB
      have heL : ∀ W, (Op.equalIn 10000 67 (.agg (ints L).toArray) (.agg (ints L).toArray)).run Try.prog W = .ok true W := fun W => by rw [hist_eql W hlL hlL, decide_eq_true rfl]
      have HLL := Aside0.mk (i67l hlL)
      have HLB := Aside0.mk (i67l hlB)
      have HLN := Aside0.mk (And.intro hlL hlB)
      have HML := Aside0.mk hmL
      have HMB := Aside0.mk hmB
      have HMT := Aside0.mk hmT
      clear hmL hmB hmT hlL hlB
      go_upto_region 13 with (first
        | ((with_reducible refine (HML.out _).mono ?_); rintro e w11 ⟨rfl, hb11⟩; have H11 := Aside0.mk (And.intro (H10.out.1.below hb11) (H10.out.2.below hb11)); clear hb11)
        | ((with_reducible refine gate_dst (N := 84) rfl ?_); refine wpList_load_mid rfl 67 (.tmp 7) rfl _ _ rfl (ints R) _ H10.out.2.range Try.underlying67 rfl HLR.out ?_)
        | ((with_reducible refine gate_dst (N := 85) rfl ?_); refine wpList_load_mid rfl 67 (.tmp 5) rfl _ _ rfl (ints zs) _ H10.out.1.z.range Try.underlying67 rfl HLZ.out ?_)
        | ((with_reducible refine gate_dst (N := 17) rfl ?_); refine wpl_new67 rfl rfl 17 rfl rfl rfl (.tmp 17) (.tmp 87) rfl L HLN.out.1 rfl rfl ?_; intro w12 hb12 hq12; have H12 := Aside0.mk (And.intro (H11.out.1.below hb12) (And.intro (H11.out.2.below hb12) hq12)); clear hb12 hq12))
      clear H10 H11
      obtain ⟨b17, hb17⟩ : ∃ z, z = w11.heap.size := ⟨_, rfl⟩
      rw [← hb17] at H12 ⊢
      clear hb17
      go_upto_region 14 with (first
        | ((with_reducible refine (HMB.out _).mono ?_); rintro e w13 ⟨rfl, hb13⟩; have H13 := Aside0.mk (And.intro (H12.out.1.below hb13) (And.intro (H12.out.2.1.below hb13) (H12.out.2.2.below hb13))); clear hb13)
        | ((with_reducible refine gate_dst (N := 90) rfl ?_); refine wpList_load_mid rfl 67 (.tmp 4) rfl _ _ rfl (ints ys) _ H12.out.1.y.range Try.underlying67 rfl HLY.out ?_)
        | ((with_reducible refine gate_dst (N := 91) rfl ?_); refine wpList_load_mid rfl 67 (.tmp 5) rfl _ _ rfl (ints zs) _ H12.out.1.z.range Try.underlying67 rfl HLZ.out ?_)
        | ((with_reducible refine gate_dst (N := 18) rfl ?_); refine wpl_new67 rfl rfl 18 rfl rfl rfl (.tmp 18) (.tmp 93) rfl B HLN.out.2 rfl rfl ?_; intro w14 hb14 hq14; have H14 := Aside0.mk (And.intro (H13.out.1.below hb14) (And.intro (H13.out.2.1.below hb14) (And.intro (H13.out.2.2.below hb14) hq14))); clear hb14 hq14))
      clear H12 H13
      obtain ⟨b18, hb18⟩ : ∃ z, z = w13.heap.size := ⟨_, rfl⟩
      rw [← hb18] at H14 ⊢
      clear hb18
      go_upto_region 15 with (first
        | ((with_reducible refine (HMT.out _).mono ?_); rintro e w15 ⟨rfl, hb15⟩; have H15 := Aside0.mk (And.intro (H14.out.1.below hb15) (And.intro (H14.out.2.1.below hb15) (And.intro (H14.out.2.2.1.below hb15) (H14.out.2.2.2.below hb15)))); clear hb15)
        | ((with_reducible refine gate_dst (N := 96) rfl ?_); refine wpList_load_mid rfl 67 (.tmp 3) rfl _ _ rfl (ints xs) _ H14.out.1.x.range Try.underlying67 rfl HLX.out ?_)
        | ((with_reducible refine gate_dst (N := 97) rfl ?_); refine wpList_load_mid rfl 67 (.tmp 18) rfl _ _ rfl (ints B) _ H14.out.2.2.2.range Try.underlying67 rfl HLB.out ?_)
        | ((with_reducible refine gate_dst (N := 19) rfl ?_); refine wpl_new67 rfl rfl 19 rfl rfl rfl (.tmp 19) (.tmp 99) rfl L HLN.out.1 rfl rfl ?_; intro w16 hb16 hq16; have H16 := Aside0.mk (And.intro (H15.out.1.below hb16) (And.intro (H15.out.2.1.below hb16) (And.intro (H15.out.2.2.1.below hb16) (And.intro (H15.out.2.2.2.below hb16) hq16)))); clear hb16 hq16))
      clear H14 H15
      obtain ⟨b19, hb19⟩ : ∃ z, z = w15.heap.size := ⟨_, rfl⟩
      rw [← hb19] at H16 ⊢
      clear hb19
      go_upto_region 17 with (first
        | ((with_reducible refine gate_dst (N := 111) rfl ?_); (refine gate_guard (by rfl) ?_); dsimp only; refine wpList_load_mid rfl 67 (.tmp 17) rfl _ _ rfl (ints L) _ H16.out.2.2.1.range Try.underlying67 rfl HLL.out ?_)
        | ((with_reducible refine gate_dst (N := 112) rfl ?_); (refine gate_guard (by rfl) ?_); dsimp only; refine wpList_load_mid rfl 67 (.tmp 19) rfl _ _ rfl (ints L) _ H16.out.2.2.2.2.range Try.underlying67 rfl HLL.out ?_))
      have H17 := Aside0.mk (And.intro H16.out.1 H16.out.2.1)
      clear H16
      have hcx := cnt_of HQ.out.1.1
      have hcy := cnt_of HQ.out.1.2.1
      have hcr := cnt_of HQ.out.2.2.1
      rw [← HQ.out.2.2.2.2.1] at hcx
      rw [← HQ.out.2.2.2.2.2] at hcy
      rw [HQ.out.2.2.2.1] at hcr
      have hmx := fun W => micron_any W xs HLE.out.1
      have hmy := fun W => micron_any W ys HLE.out.2.1
      have hmr := fun W => micron_any W R HLE.out.2.2.2
      have hmean := fun (h1 : cntE xs = 0) (h2 : cntE ys = 0) => (mrg_mean HLE.out.1 HLE.out.2.1 HR.out.2.symm h1 h2).2
      rw [← HQ.out.2.1] at hmean
      obtain ⟨vx, hvx⟩ : ∃ z, z = micV xs := ⟨_, rfl⟩
      obtain ⟨vy, hvy⟩ : ∃ z, z = micV ys := ⟨_, rfl⟩
      obtain ⟨vr, hvr⟩ : ∃ z, z = micV R := ⟨_, rfl⟩
      rw [← hvx] at hmx
      rw [← hvy] at hmy
      rw [← hvr] at hmr
      rw [← hvx, ← hvy, ← hvr] at hmean
      clear hvx hvy hvr
      rcases hcx with ⟨hcx, hn0⟩ | ⟨hcx, hn0⟩
      · rcases hcy with ⟨hcy, hm0⟩ | ⟨hcy, hm0⟩
        · have hcr0 : cntE R = 0 := by rcases hcr with ⟨h, _⟩ | ⟨_, h⟩; exact h; omega
          obtain ⟨hbt1, hbt2⟩ := hmean hcx hcy
          rw [hcx] at hmx
          rw [hcy] at hmy
          rw [hcr0] at hmr
          clear hcx hcy hcr0 hcr
          have HMX := Aside0.mk hmx
          have HMY := Aside0.mk hmy
          have HMR := Aside0.mk hmr
          clear hmx hmy hmr hmean
          go_wp2_with (first
            | ((with_reducible refine (HMX.out _).mono ?_); rintro e wA ⟨rfl, hb⟩; have HA := Aside0.mk (And.intro (H17.out.1.below hb) (H17.out.2.below hb)); clear hb)
            | ((with_reducible refine (HMY.out _).mono ?_); rintro e wB ⟨rfl, hb⟩; have HB := Aside0.mk (And.intro (HA.out.1.below hb) (HA.out.2.below hb)); clear hb)
            | ((with_reducible refine (HMR.out _).mono ?_); rintro e wC ⟨rfl, hb⟩; have HC := Aside0.mk (HB.out.1.below hb); clear hb)
            | ((with_reducible refine (HAL.out _).mono ?_); rintro e wD ⟨rfl, hb⟩; have HD := Aside0.mk (below_step HC.out.bel hb); clear hb)
            | ((with_reducible refine gate_dst (N := 117) rfl ?_); refine wpList_load_mid rfl 67 (.tmp 3) rfl _ _ rfl (ints xs) _ H17.out.1.x.range Try.underlying67 rfl HLX.out ?_)
            | ((with_reducible refine gate_dst (N := 122) rfl ?_); refine wpList_load_mid rfl 67 (.tmp 4) rfl _ _ rfl (ints ys) _ HA.out.1.y.range Try.underlying67 rfl HLY.out ?_)
            | ((with_reducible refine gate_dst (N := 127) rfl ?_); refine wpList_load_mid rfl 67 (.tmp 7) rfl _ _ rfl (ints R) _ HB.out.2.range Try.underlying67 rfl HLR.out ?_))
          go_ret
          exact ⟨rfl, HD.out⟩
        · have hcr0 : cntE R = 0 := by rcases hcr with ⟨h, _⟩ | ⟨_, h⟩; exact h; omega
          have hpos : decide (0 < n + m) = true := decide_eq_true (by omega)
          rw [hcx] at hmx
          rw [hcy] at hmy
          rw [hcr0] at hmr
          clear hcx hcy hcr0 hcr
          have HMX := Aside0.mk hmx
          have HMY := Aside0.mk hmy
          have HMR := Aside0.mk hmr
          clear hmx hmy hmr hmean
          go_wp2_with (first
            | ((with_reducible refine (HMX.out _).mono ?_); rintro e wA ⟨rfl, hb⟩; have HA := Aside0.mk (And.intro (H17.out.1.below hb) (H17.out.2.below hb)); clear hb)
            | ((with_reducible refine (HMY.out _).mono ?_); rintro e wB ⟨rfl, hb⟩; have HB := Aside0.mk (And.intro (HA.out.1.below hb) (HA.out.2.below hb)); clear hb)
            | ((with_reducible refine (HMR.out _).mono ?_); rintro e wC ⟨rfl, hb⟩; have HC := Aside0.mk (HB.out.1.below hb); clear hb)
            | ((with_reducible refine (HAL.out _).mono ?_); rintro e wD ⟨rfl, hb⟩; have HD := Aside0.mk (below_step HC.out.bel hb); clear hb)
            | ((with_reducible refine gate_dst (N := 117) rfl ?_); refine wpList_load_mid rfl 67 (.tmp 3) rfl _ _ rfl (ints xs) _ H17.out.1.x.range Try.underlying67 rfl HLX.out ?_)
            | ((with_reducible refine gate_dst (N := 122) rfl ?_); refine wpList_load_mid rfl 67 (.tmp 4) rfl _ _ rfl (ints ys) _ HA.out.1.y.range Try.underlying67 rfl HLY.out ?_)
            | ((with_reducible refine gate_dst (N := 127) rfl ?_); refine wpList_load_mid rfl 67 (.tmp 7) rfl _ _ rfl (ints R) _ HB.out.2.range Try.underlying67 rfl HLR.out ?_))
          go_ret
          exact ⟨rfl, HD.out⟩
      · rcases hcy with ⟨hcy, hm0⟩ | ⟨hcy, hm0⟩
        · have hcr0 : cntE R = 0 := by rcases hcr with ⟨h, _⟩ | ⟨_, h⟩; exact h; omega
          have hpos : decide (0 < n + m) = true := decide_eq_true (by omega)
          rw [hcx] at hmx
          rw [hcy] at hmy
          rw [hcr0] at hmr
          clear hcx hcy hcr0 hcr
          have HMX := Aside0.mk hmx
          have HMY := Aside0.mk hmy
          have HMR := Aside0.mk hmr
          clear hmx hmy hmr hmean
          go_wp2_with (first
            | ((with_reducible refine (HMX.out _).mono ?_); rintro e wA ⟨rfl, hb⟩; have HA := Aside0.mk (And.intro (H17.out.1.below hb) (H17.out.2.below hb)); clear hb)
            | ((with_reducible refine (HMY.out _).mono ?_); rintro e wB ⟨rfl, hb⟩; have HB := Aside0.mk (And.intro (HA.out.1.below hb) (HA.out.2.below hb)); clear hb)
            | ((with_reducible refine (HMR.out _).mono ?_); rintro e wC ⟨rfl, hb⟩; have HC := Aside0.mk (HB.out.1.below hb); clear hb)
            | ((with_reducible refine (HAL.out _).mono ?_); rintro e wD ⟨rfl, hb⟩; have HD := Aside0.mk (below_step HC.out.bel hb); clear hb)
            | ((with_reducible refine gate_dst (N := 117) rfl ?_); refine wpList_load_mid rfl 67 (.tmp 3) rfl _ _ rfl (ints xs) _ H17.out.1.x.range Try.underlying67 rfl HLX.out ?_)
            | ((with_reducible refine gate_dst (N := 122) rfl ?_); refine wpList_load_mid rfl 67 (.tmp 4) rfl _ _ rfl (ints ys) _ HA.out.1.y.range Try.underlying67 rfl HLY.out ?_)
            | ((with_reducible refine gate_dst (N := 127) rfl ?_); refine wpList_load_mid rfl 67 (.tmp 7) rfl _ _ rfl (ints R) _ HB.out.2.range Try.underlying67 rfl HLR.out ?_))
          go_ret
          exact ⟨rfl, HD.out⟩
        · have hcr0 : cntE R = 5 := by rcases hcr with ⟨_, h⟩ | ⟨h, _⟩; omega; exact h
          have hpos : decide (0 < n + m) = false := decide_eq_false (by omega)
          rw [hcx] at hmx
          rw [hcy] at hmy
          rw [hcr0] at hmr
          clear hcx hcy hcr0 hcr
          have HMX := Aside0.mk hmx
          have HMY := Aside0.mk hmy
          have HMR := Aside0.mk hmr
          clear hmx hmy hmr hmean
          go_wp2_with (first
            | ((with_reducible refine (HMX.out _).mono ?_); rintro e wA ⟨rfl, hb⟩; have HA := Aside0.mk (And.intro (H17.out.1.below hb) (H17.out.2.below hb)); clear hb)
            | ((with_reducible refine (HMY.out _).mono ?_); rintro e wB ⟨rfl, hb⟩; have HB := Aside0.mk (And.intro (HA.out.1.below hb) (HA.out.2.below hb)); clear hb)
            | ((with_reducible refine (HMR.out _).mono ?_); rintro e wC ⟨rfl, hb⟩; have HC := Aside0.mk (HB.out.1.below hb); clear hb)
            | ((with_reducible refine (HAL.out _).mono ?_); rintro e wD ⟨rfl, hb⟩; have HD := Aside0.mk (below_step HC.out.bel hb); clear hb)
            | ((with_reducible refine gate_dst (N := 117) rfl ?_); refine wpList_load_mid rfl 67 (.tmp 3) rfl _ _ rfl (ints xs) _ H17.out.1.x.range Try.underlying67 rfl HLX.out ?_)
            | ((with_reducible refine gate_dst (N := 122) rfl ?_); refine wpList_load_mid rfl 67 (.tmp 4) rfl _ _ rfl (ints ys) _ HA.out.1.y.range Try.underlying67 rfl HLY.out ?_)
            | ((with_reducible refine gate_dst (N := 127) rfl ?_); refine wpList_load_mid rfl 67 (.tmp 7) rfl _ _ rfl (ints R) _ HB.out.2.range Try.underlying67 rfl HLR.out ?_))
          go_ret
          exact ⟨rfl, HD.out⟩
    · have hLb : (mrgE R zs == 0) = false := by simpa using hL
      obtain ⟨L, hLL⟩ : ∃ z, z = mrgR R zs := ⟨_, rfl⟩
      obtain ⟨eL, heL⟩ : ∃ z, z = mrgE R zs := ⟨_, rfl⟩
      obtain ⟨U, hUU⟩ : ∃ z, z = mrgR xs (mrgR ys zs) := ⟨_, rfl⟩
      obtain ⟨eU, heU⟩ : ∃ z, z = mrgE xs (mrgR ys zs) := ⟨_, rfl⟩
      obtain ⟨B, hBB⟩ : ∃ z, z = mrgR ys zs := ⟨_, rfl⟩
      obtain ⟨eB, heB⟩ : ∃ z, z = mrgE ys zs := ⟨_, rfl⟩
      rw [← hLL, ← heL] at hmL
      rw [← hLL] at hlL
      rw [← heL] at hLb hL
      rw [← hUU, ← heU] at hmT
      rw [← hUU] at hlT
      rw [← hBB, ← heB] at hmB
      rw [← hBB] at hmT hlB
      clear hLL heL hUU heU hBB heB
      have HLL := Aside0.mk (i67l hlL)
      have HLB := Aside0.mk (i67l hlB)
      have HLN := Aside0.mk (And.intro hlL (And.intro hlB hlT))
      have HML := Aside0.mk hmL
      have HMB := Aside0.mk hmB
      have HMT := Aside0.mk hmT
      clear hmL hmB hmT hlL hlB hlT
      go_upto_region 13 with (first
        | ((with_reducible refine (HML.out _).mono ?_); rintro e w11 ⟨rfl, hb11⟩; have H11 := Aside0.mk (And.intro (H10.out.1.below hb11) (H10.out.2.below hb11)); clear hb11)
        | ((with_reducible refine gate_dst (N := 84) rfl ?_); refine wpList_load_mid rfl 67 (.tmp 7) rfl _ _ rfl (ints R) _ H10.out.2.range Try.underlying67 rfl HLR.out ?_)
        | ((with_reducible refine gate_dst (N := 85) rfl ?_); refine wpList_load_mid rfl 67 (.tmp 5) rfl _ _ rfl (ints zs) _ H10.out.1.z.range Try.underlying67 rfl HLZ.out ?_)
        | ((with_reducible refine gate_dst (N := 17) rfl ?_); refine wpl_new67 rfl rfl 17 rfl rfl rfl (.tmp 17) (.tmp 87) rfl L HLN.out.1 rfl rfl ?_; intro w12 hb12 hq12; have H12 := Aside0.mk (And.intro (H11.out.1.below hb12) (And.intro (H11.out.2.below hb12) hq12)); clear hb12 hq12))
      clear H10 H11
      obtain ⟨b17, hb17⟩ : ∃ z, z = w11.heap.size := ⟨_, rfl⟩
      rw [← hb17] at H12 ⊢
      clear hb17
      go_upto_region 14 with (first
        | ((with_reducible refine (HMB.out _).mono ?_); rintro e w13 ⟨rfl, hb13⟩; have H13 := Aside0.mk (And.intro (H12.out.1.below hb13) (And.intro (H12.out.2.1.below hb13) (H12.out.2.2.below hb13))); clear hb13)
        | ((with_reducible refine gate_dst (N := 90) rfl ?_); refine wpList_load_mid rfl 67 (.tmp 4) rfl _ _ rfl (ints ys) _ H12.out.1.y.range Try.underlying67 rfl HLY.out ?_)
        | ((with_reducible refine gate_dst (N := 91) rfl ?_); refine wpList_load_mid rfl 67 (.tmp 5) rfl _ _ rfl (ints zs) _ H12.out.1.z.range Try.underlying67 rfl HLZ.out ?_)
        | ((with_reducible refine gate_dst (N := 18) rfl ?_); refine wpl_new67 rfl rfl 18 rfl rfl rfl (.tmp 18) (.tmp 93) rfl B HLN.out.2.1 rfl rfl ?_; intro w14 hb14 hq14; have H14 := Aside0.mk (And.intro (H13.out.1.below hb14) (And.intro (H13.out.2.1.below hb14) (And.intro (H13.out.2.2.below hb14) hq14))); clear hb14 hq14))
      clear H12 H13
      obtain ⟨b18, hb18⟩ : ∃ z, z = w13.heap.size := ⟨_, rfl⟩
      rw [← hb18] at H14 ⊢
      clear hb18
      go_upto_region 15 with (first
        | ((with_reducible refine (HMT.out _).mono ?_); rintro e w15 ⟨rfl, hb15⟩; have H15 := Aside0.mk (And.intro (H14.out.1.below hb15) (And.intro (H14.out.2.1.below hb15) (And.intro (H14.out.2.2.1.below hb15) (H14.out.2.2.2.below hb15)))); clear hb15)
        | ((with_reducible refine gate_dst (N := 96) rfl ?_); refine wpList_load_mid rfl 67 (.tmp 3) rfl _ _ rfl (ints xs) _ H14.out.1.x.range Try.underlying67 rfl HLX.out ?_)
        | ((with_reducible refine gate_dst (N := 97) rfl ?_); refine wpList_load_mid rfl 67 (.tmp 18) rfl _ _ rfl (ints B) _ H14.out.2.2.2.range Try.underlying67 rfl HLB.out ?_)
        | ((with_reducible refine gate_dst (N := 19) rfl ?_); refine wpl_new67 rfl rfl 19 rfl rfl rfl (.tmp 19) (.tmp 99) rfl U HLN.out.2.2 rfl rfl ?_; intro w16 hb16 hq16; have H16 := Aside0.mk (And.intro (H15.out.1.below hb16) (And.intro (H15.out.2.1.below hb16) (And.intro (H15.out.2.2.1.below hb16) (And.intro (H15.out.2.2.2.below hb16) hq16)))); clear hb16 hq16))
      clear H14 H15
      obtain ⟨b19, hb19⟩ : ∃ z, z = w15.heap.size := ⟨_, rfl⟩
      rw [← hb19] at H16 ⊢
      clear hb19
      go_upto_region 17 with fail
      have H17 := Aside0.mk (And.intro H16.out.1 H16.out.2.1)
      clear H16
      have hcx := cnt_of HQ.out.1.1
      have hcy := cnt_of HQ.out.1.2.1
      have hcr := cnt_of HQ.out.2.2.1
      rw [← HQ.out.2.2.2.2.1] at hcx
      rw [← HQ.out.2.2.2.2.2] at hcy
      rw [HQ.out.2.2.2.1] at hcr
      have hmx := fun W => micron_any W xs HLE.out.1
      have hmy := fun W => micron_any W ys HLE.out.2.1
      have hmr := fun W => micron_any W R HLE.out.2.2.2
      have hmean := fun (h1 : cntE xs = 0) (h2 : cntE ys = 0) => (mrg_mean HLE.out.1 HLE.out.2.1 HR.out.2.symm h1 h2).2
      rw [← HQ.out.2.1] at hmean
      obtain ⟨vx, hvx⟩ : ∃ z, z = micV xs := ⟨_, rfl⟩
      obtain ⟨vy, hvy⟩ : ∃ z, z = micV ys := ⟨_, rfl⟩
      obtain ⟨vr, hvr⟩ : ∃ z, z = micV R := ⟨_, rfl⟩
      rw [← hvx] at hmx
      rw [← hvy] at hmy
      rw [← hvr] at hmr
      rw [← hvx, ← hvy, ← hvr] at hmean
      clear hvx hvy hvr
      rcases hcx with ⟨hcx, hn0⟩ | ⟨hcx, hn0⟩
      · rcases hcy with ⟨hcy, hm0⟩ | ⟨hcy, hm0⟩
        · have hcr0 : cntE R = 0 := by rcases hcr with ⟨h, _⟩ | ⟨_, h⟩; exact h; omega
          obtain ⟨hbt1, hbt2⟩ := hmean hcx hcy
          rw [hcx] at hmx
          rw [hcy] at hmy
          rw [hcr0] at hmr
          clear hcx hcy hcr0 hcr
          have HMX := Aside0.mk hmx
          have HMY := Aside0.mk hmy
          have HMR := Aside0.mk hmr
          clear hmx hmy hmr hmean
          go_wp2_with (first
            | ((with_reducible refine (HMX.out _).mono ?_); rintro e wA ⟨rfl, hb⟩; have HA := Aside0.mk (And.intro (H17.out.1.below hb) (H17.out.2.below hb)); clear hb)
            | ((with_reducible refine (HMY.out _).mono ?_); rintro e wB ⟨rfl, hb⟩; have HB := Aside0.mk (And.intro (HA.out.1.below hb) (HA.out.2.below hb)); clear hb)
            | ((with_reducible refine (HMR.out _).mono ?_); rintro e wC ⟨rfl, hb⟩; have HC := Aside0.mk (HB.out.1.below hb); clear hb)
            | ((with_reducible refine (HAL.out _).mono ?_); rintro e wD ⟨rfl, hb⟩; have HD := Aside0.mk (below_step HC.out.bel hb); clear hb)
            | ((with_reducible refine gate_dst (N := 117) rfl ?_); refine wpList_load_mid rfl 67 (.tmp 3) rfl _ _ rfl (ints xs) _ H17.out.1.x.range Try.underlying67 rfl HLX.out ?_)
            | ((with_reducible refine gate_dst (N := 122) rfl ?_); refine wpList_load_mid rfl 67 (.tmp 4) rfl _ _ rfl (ints ys) _ HA.out.1.y.range Try.underlying67 rfl HLY.out ?_)
            | ((with_reducible refine gate_dst (N := 127) rfl ?_); refine wpList_load_mid rfl 67 (.tmp 7) rfl _ _ rfl (ints R) _ HB.out.2.range Try.underlying67 rfl HLR.out ?_))
          go_ret
          exact ⟨rfl, HD.out⟩
        · have hcr0 : cntE R = 0 := by rcases hcr with ⟨h, _⟩ | ⟨_, h⟩; exact h; omega
          have hpos : decide (0 < n + m) = true := decide_eq_true (by omega)
          rw [hcx] at hmx
          rw [hcy] at hmy
          rw [hcr0] at hmr
          clear hcx hcy hcr0 hcr
          have HMX := Aside0.mk hmx
          have HMY := Aside0.mk hmy
          have HMR := Aside0.mk hmr
          clear hmx hmy hmr hmean
          go_wp2_with (first
            | ((with_reducible refine (HMX.out _).mono ?_); rintro e wA ⟨rfl, hb⟩; have HA := Aside0.mk (And.intro (H17.out.1.below hb) (H17.out.2.below hb)); clear hb)
            | ((with_reducible refine (HMY.out _).mono ?_); rintro e wB ⟨rfl, hb⟩; have HB := Aside0.mk (And.intro (HA.out.1.below hb) (HA.out.2.below hb)); clear hb)
            | ((with_reducible refine (HMR.out _).mono ?_); rintro e wC ⟨rfl, hb⟩; have HC := Aside0.mk (HB.out.1.below hb); clear hb)
            | ((with_reducible refine (HAL.out _).mono ?_); rintro e wD ⟨rfl, hb⟩; have HD := Aside0.mk (below_step HC.out.bel hb); clear hb)
            | ((with_reducible refine gate_dst (N := 117) rfl ?_); refine wpList_load_mid rfl 67 (.tmp 3) rfl _ _ rfl (ints xs) _ H17.out.1.x.range Try.underlying67 rfl HLX.out ?_)
            | ((with_reducible refine gate_dst (N := 122) rfl ?_); refine wpList_load_mid rfl 67 (.tmp 4) rfl _ _ rfl (ints ys) _ HA.out.1.y.range Try.underlying67 rfl HLY.out ?_)
            | ((with_reducible refine gate_dst (N := 127) rfl ?_); refine wpList_load_mid rfl 67 (.tmp 7) rfl _ _ rfl (ints R) _ HB.out.2.range Try.underlying67 rfl HLR.out ?_))
          go_ret
          exact ⟨rfl, HD.out⟩
      · rcases hcy with ⟨hcy, hm0⟩ | ⟨hcy, hm0⟩
        · have hcr0 : cntE R = 0 := by rcases hcr with ⟨h, _⟩ | ⟨_, h⟩; exact h; omega
          have hpos : decide (0 < n + m) = true := decide_eq_true (by omega)
          rw [hcx] at hmx
          rw [hcy] at hmy
          rw [hcr0] at hmr
          clear hcx hcy hcr0 hcr
          have HMX := Aside0.mk hmx
          have HMY := Aside0.mk hmy
          have HMR := Aside0.mk hmr
          clear hmx hmy hmr hmean
          go_wp2_with (first
            | ((with_reducible refine (HMX.out _).mono ?_); rintro e wA ⟨rfl, hb⟩; have HA := Aside0.mk (And.intro (H17.out.1.below hb) (H17.out.2.below hb)); clear hb)
            | ((with_reducible refine (HMY.out _).mono ?_); rintro e wB ⟨rfl, hb⟩; have HB := Aside0.mk (And.intro (HA.out.1.below hb) (HA.out.2.below hb)); clear hb)
            | ((with_reducible refine (HMR.out _).mono ?_); rintro e wC ⟨rfl, hb⟩; have HC := Aside0.mk (HB.out.1.below hb); clear hb)
            | ((with_reducible refine (HAL.out _).mono ?_); rintro e wD ⟨rfl, hb⟩; have HD := Aside0.mk (below_step HC.out.bel hb); clear hb)
            | ((with_reducible refine gate_dst (N := 117) rfl ?_); refine wpList_load_mid rfl 67 (.tmp 3) rfl _ _ rfl (ints xs) _ H17.out.1.x.range Try.underlying67 rfl HLX.out ?_)
            | ((with_reducible refine gate_dst (N := 122) rfl ?_); refine wpList_load_mid rfl 67 (.tmp 4) rfl _ _ rfl (ints ys) _ HA.out.1.y.range Try.underlying67 rfl HLY.out ?_)
            | ((with_reducible refine gate_dst (N := 127) rfl ?_); refine wpList_load_mid rfl 67 (.tmp 7) rfl _ _ rfl (ints R) _ HB.out.2.range Try.underlying67 rfl HLR.out ?_))
          go_ret
          exact ⟨rfl, HD.out⟩
        · have hcr0 : cntE R = 5 := by rcases hcr with ⟨_, h⟩ | ⟨h, _⟩; omega; exact h
          have hpos : decide (0 < n + m) = false := decide_eq_false (by omega)
          rw [hcx] at hmx
          rw [hcy] at hmy
          rw [hcr0] at hmr
          clear hcx hcy hcr0 hcr
          have HMX := Aside0.mk hmx
          have HMY := Aside0.mk hmy
          have HMR := Aside0.mk hmr
          clear hmx hmy hmr hmean
          go_wp2_with (first
            | ((with_reducible refine (HMX.out _).mono ?_); rintro e wA ⟨rfl, hb⟩; have HA := Aside0.mk (And.intro (H17.out.1.below hb) (H17.out.2.below hb)); clear hb)
            | ((with_reducible refine (HMY.out _).mono ?_); rintro e wB ⟨rfl, hb⟩; have HB := Aside0.mk (And.intro (HA.out.1.below hb) (HA.out.2.below hb)); clear hb)
            | ((with_reducible refine (HMR.out _).mono ?_); rintro e wC ⟨rfl, hb⟩; have HC := Aside0.mk (HB.out.1.below hb); clear hb)
            | ((with_reducible refine (HAL.out _).mono ?_); rintro e wD ⟨rfl, hb⟩; have HD := Aside0.mk (below_step HC.out.bel hb); clear hb)
            | ((with_reducible refine gate_dst (N := 117) rfl ?_); refine wpList_load_mid rfl 67 (.tmp 3) rfl _ _ rfl (ints xs) _ H17.out.1.x.range Try.underlying67 rfl HLX.out ?_)
            | ((with_reducible refine gate_dst (N := 122) rfl ?_); refine wpList_load_mid rfl 67 (.tmp 4) rfl _ _ rfl (ints ys) _ HA.out.1.y.range Try.underlying67 rfl HLY.out ?_)
            | ((with_reducible refine gate_dst (N := 127) rfl ?_); refine wpList_load_mid rfl 67 (.tmp 7) rfl _ _ rfl (ints R) _ HB.out.2.range Try.underlying67 rfl HLR.out ?_))
          go_ret
          exact ⟨rfl, HD.out⟩
  · have hRz : R = hZ := by rw [HR.out.1]; unfold mrgR; rw [if_neg (by rw [← HR.out.2]; exact h0)]
    have hz := eq_zero_lit
    have hne : (e1 != 0) = true := by simpa using h0
    subst hRz
    go_wp2_with (first
      | ((with_reducible refine (HAL.out _).mono ?_); rintro e w8 ⟨rfl, hb8⟩; have HB8 := Aside0.mk (below_step H7.out.1.bel hb8); clear hb8)
      | ((with_reducible refine gate_dst (N := 35) rfl ?_); refine wpList_load_mid rfl 67 (.tmp 7) rfl _ _ rfl (ints hZ) _ H7.out.2.1.range Try.underlying67 rfl HLR.out ?_)
      | ((with_reducible refine gate_dst (N := 45) rfl ?_); refine wpList_load_mid rfl 67 (.tmp 7) rfl _ _ rfl (ints hZ) _ H7.out.2.1.range Try.underlying67 rfl HLR.out ?_)
      | ((with_reducible refine gate_dst (N := 36) rfl ?_); refine wpList_load_mid rfl 67 (.tmp 9) rfl _ _ rfl (ints hZ) _ H7.out.2.2.range Try.underlying67 rfl HLR.out ?_))
    go_ret
    exact ⟨rfl, HB8.out⟩
end Go.Proofs.Ythkfahkkcjagdaa

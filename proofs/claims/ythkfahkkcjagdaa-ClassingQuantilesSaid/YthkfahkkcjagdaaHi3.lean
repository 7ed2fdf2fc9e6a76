/- The histogram of both: its walk, and plain facts. -/
import Derived.Test.YthkfahkkcjagdaaHi2
namespace Go.Proofs.Ythkfahkkcjagdaa
open Go.RowKit Go.Proofs.YthkfahkkcjagdaaW.PrintWords Go.Proofs.YthkfahkkcjagdaaW.PrintMore Go.Proofs.YthkfahkkcjagdaaW.PrintLast

/-- The first i counts are of both, the others of the first alone. -/
def mp (xs ys : List Int) (i : Nat) : List Int := (List.range 64).map fun (k : Nat) => if k < i then rd xs k + rd ys k else rd xs k
def mrg (xs ys : List Int) : List Int := (List.range 64).map fun (k : Nat) => rd xs k + rd ys k
theorem mp_len (xs ys : List Int) (i : Nat) : (mp xs ys i).length = 64 := by simp [mp]
theorem mrg_len (xs ys : List Int) : (mrg xs ys).length = 64 := by simp [mrg]
theorem as_map {xs : List Int} (h : xs.length = 64) : xs = (List.range 64).map fun (k : Nat) => rd xs k := by
  apply List.ext_getElem?
  intro i
  by_cases hi : i < 64
  · rw [List.getElem?_map, List.getElem?_range hi, List.getElem?_eq_getElem (by omega)]
    simp [rd, List.getD_eq_getElem?_getD, List.getElem?_eq_getElem (show i < xs.length by omega)]
  · rw [List.getElem?_eq_none (by omega), List.getElem?_eq_none (by simp; omega)]
theorem mp_zero {xs : List Int} (ys : List Int) (h : xs.length = 64) : mp xs ys 0 = xs := by
  conv => rhs; rw [as_map h]
  exact List.map_congr_left fun k _ => by rw [if_neg (by omega)]
theorem mp_all (xs ys : List Int) : mp xs ys 64 = mrg xs ys := List.map_congr_left fun k hk => by
  rw [List.mem_range] at hk
  rw [if_pos hk]
theorem mp_get (xs ys : List Int) {i k : Nat} (h : k < 64) : (mp xs ys i)[k]? = some (if k < i then rd xs k + rd ys k else rd xs k) := by
  unfold mp
  rw [List.getElem?_map, List.getElem?_range h]
  rfl
theorem mp_set (xs ys : List Int) {i : Nat} (h : i < 64) : (mp xs ys i).set i (rd xs i + rd ys i) = mp xs ys (i + 1) := by
  apply List.ext_getElem?
  intro k
  rw [List.getElem?_set, mp_len]
  by_cases hk : k < 64
  · rw [mp_get xs ys hk, mp_get xs ys hk]
    by_cases e : i = k
    · subst e; rw [if_pos rfl, if_pos h, if_pos (by omega)]
    · rw [if_neg e]
      by_cases h2 : k < i
      · rw [if_pos h2, if_pos (by omega)]
      · rw [if_neg h2, if_neg (by omega)]
  · rw [if_neg (by omega), List.getElem?_eq_none (by rw [mp_len]; omega), List.getElem?_eq_none (by rw [mp_len]; omega)]
theorem mrg_comm (xs ys : List Int) : mrg xs ys = mrg ys xs := List.map_congr_left fun _ _ => Int.add_comm _ _
theorem mrg_rd (xs ys : List Int) {k : Nat} (h : k < 64) : rd (mrg xs ys) k = rd xs k + rd ys k := by
  unfold rd mrg
  rw [Int.toNat_natCast, List.getD_eq_getElem?_getD, List.getElem?_map, List.getElem?_range h]
  rfl
theorem mrg_assoc (xs ys zs : List Int) : mrg (mrg xs ys) zs = mrg xs (mrg ys zs) := List.map_congr_left fun k hk => by
  rw [List.mem_range] at hk
  rw [mrg_rd xs ys hk, mrg_rd ys zs hk, Int.add_assoc]
theorem sum_map_add (f g : Nat → Int) : ∀ l : List Nat, (l.map fun k => f k + g k).sum = (l.map f).sum + (l.map g).sum
  | [] => rfl
  | a :: l => by
    simp only [List.map_cons, List.sum_cons, sum_map_add f g l]
    omega
theorem mrg_sum {xs ys : List Int} (hx : xs.length = 64) (hy : ys.length = 64) : (mrg xs ys).sum = xs.sum + ys.sum := by
  conv => rhs; rw [as_map hx, as_map hy]
  exact sum_map_add _ _ _
theorem elem_le {xs : List Int} (h : xs.all hOK = true) : ∀ x ∈ xs, x ≤ xs.sum := by
  induction xs with
  | nil => intro x hx; simp at hx
  | cons a xs ih =>
    rw [List.all_cons, Bool.and_eq_true] at h
    have h1 := h.1
    unfold hOK at h1
    rw [decide_eq_true_eq] at h1
    have h2 := sum_nonneg' h.2
    intro x hx
    rw [List.sum_cons]
    rcases List.mem_cons.1 hx with rfl | hx
    · omega
    · have := ih h.2 x hx
      omega
theorem rd_le {xs : List Int} (h : xs.all hOK = true) (k : Int) : rd xs k ≤ xs.sum := by
  have h0 := sum_nonneg' h
  unfold rd
  rw [List.getD_eq_getElem?_getD]
  cases e : xs[k.toNat]? with
  | none => simpa using h0
  | some x => exact elem_le h x (List.mem_of_getElem? e)
theorem mrg_totB {xs ys : List Int} (hx : xs.length = 64) (hy : ys.length = 64) (h1 : totB xs = true) (h2 : totB ys = true) (h3 : xs.sum + ys.sum ≤ 1048576) : totB (mrg xs ys) = true := by
  unfold totB
  rw [Bool.and_eq_true, mrg_sum hx hy]
  refine ⟨List.all_eq_true.2 fun z hz => ?_, decide_eq_true h3⟩
  obtain ⟨k, _, rfl⟩ := List.mem_map.1 hz
  have a1 := hOK_rd (totB_ok h1) k
  have a2 := hOK_rd (totB_ok h2) k
  have a3 := rd_le (totB_ok h1) k
  have a4 := rd_le (totB_ok h2) k
  exact decide_eq_true (by omega)
theorem mrg_one {xs ys : List Int} : ∀ n, n ≤ 64 → oneF (mrg xs ys) n = oneF xs n + oneF ys n
  | 0, _ => rfl
  | n + 1, h => by
    show oneF (mrg xs ys) n + n * rd (mrg xs ys) n = oneF xs n + n * rd xs n + (oneF ys n + n * rd ys n)
    rw [mrg_one n (by omega), mrg_rd xs ys (by omega), Int.mul_add]
    omega
def mrgE (xs ys : List Int) : Int := if totB xs = true ∧ totB ys = true then (if 1048576 < xs.sum + ys.sum then 4 else 0) else 2
def mrgR (xs ys : List Int) : List Int := if mrgE xs ys = 0 then mrg xs ys else hZ
theorem mrgR_len (xs ys : List Int) : (mrgR xs ys).length = 64 := by unfold mrgR; split; exact mrg_len _ _; rfl
theorem ret_ct {w : World} {tmps : Array Value} {b : Nat} {xs : List Int} (hl : xs.length = 64) (hp : tmps.getD 4 undef = .pointer (some ⟨b, 0, none⟩)) (hb : Blk w b (ints xs) 67) : (results Try.f37 tmps).run Try.prog w = .ok (.tuple #[.agg (ints xs).toArray, tmps.getD 5 undef]) w :=
  results_ct rfl tmps w b 67 (ints xs).toArray (0, 0) _ hp hb Try.underlying67 rfl (i67a hl)
set_option maxHeartbeats 4000000 in
set_option maxRecDepth 100000 in
theorem hmerge_any (w : World) (xs ys : List Int) (hx : xs.length = 64) (hy : ys.length = 64) :
    Calls Try.prog 37 #[.agg (ints xs).toArray, .agg (ints ys).toArray] w fun e w' => e = .returned (.tuple #[.agg (ints (mrgR xs ys)).toArray, .int .i64 (mrgE xs ys)]) ∧ Below w.heap.size w w' := by
  have b3 := below_alloc (below_alloc (below_alloc (Below.refl w.heap.size w) (.cells (ints xs).toArray 67)) (.cells (ints ys).toArray 67)) (.cells (ints hZ).toArray 67)
  have q1 := ((Blk.new w (ints xs) 67).alloc (.cells (ints ys).toArray 67)).alloc (.cells (ints hZ).toArray 67)
  have q2 := (Blk.new (w.alloc (.cells (ints xs).toArray 67)) (ints ys) 67).alloc (.cells (ints hZ).toArray 67)
  have q3 := Blk.new ((w.alloc (.cells (ints xs).toArray 67)).alloc (.cells (ints ys).toArray 67)) (ints hZ) 67
  have e1 : (w.alloc (.cells (ints xs).toArray 67)).heap.size = w.heap.size + 1 := by simp
  have e2 : ((w.alloc (.cells (ints xs).toArray 67)).alloc (.cells (ints ys).toArray 67)).heap.size = w.heap.size + 1 + 1 := by simp
  rw [e1] at q2
  rw [e2] at q3
  have HT1 := Aside0.mk (fun W => total_any W xs hx)
  have HT2 := Aside0.mk (fun W => total_any W ys hy)
  have H3 := Aside0.mk (And.intro b3 (And.intro q1 (And.intro q2 q3)))
  have HLX := Aside0.mk (i67l hx)
  have HLY := Aside0.mk (i67l hy)
  have HLE := Aside0.mk (And.intro hx hy)
  clear b3 q1 q2 q3 e1 e2 hx hy
  obtain ⟨n1, hn1⟩ : ∃ z, z = totF xs := ⟨_, rfl⟩
  obtain ⟨t1, ht1⟩ : ∃ b, b = totB xs := ⟨_, rfl⟩
  obtain ⟨n2, hn2⟩ : ∃ z, z = totF ys := ⟨_, rfl⟩
  obtain ⟨t2, ht2⟩ : ∃ b, b = totB ys := ⟨_, rfl⟩
  rw [← hn1, ← ht1] at HT1
  rw [← hn2, ← ht2] at HT2
  have HZ := Aside0.mk (And.intro hn1 (And.intro ht1 (And.intro hn2 ht2))); clear hn1 ht1 hn2 ht2
  go_enter Try.func37, Try.ntmps37
  go_upto_region 1 with fail
  rw [z64]
  generalize (((w.alloc (.cells (ints xs).toArray 67)).alloc (.cells (ints ys).toArray 67)).alloc (.cells (ints hZ).toArray 67)) = w3 at H3 ⊢
  obtain ⟨b2, hb2⟩ : ∃ z, z = w.heap.size := ⟨_, rfl⟩
  rw [← hb2] at H3 ⊢
  have HB2 := Aside0.mk hb2; clear hb2
  go_upto_region 2 with (first
      | (refine wpList_load_mid rfl 67 (.tmp 2) rfl _ _ rfl (ints xs) _ H3.out.2.1.range Try.underlying67 rfl HLX.out ?_)
      | ((with_reducible refine (HT1.out _).mono ?_); rintro e w4 ⟨rfl, hb4⟩; have H4 := Aside0.mk (And.intro (by rw [HB2.out] at H3; exact below_step H3.out.1 hb4) (And.intro (H3.out.2.1.below hb4) (And.intro (H3.out.2.2.1.below hb4) (H3.out.2.2.2.below hb4)))); clear hb4))
  go_upto_region 3 with (first
      | (refine wpList_load_mid rfl 67 (.tmp 3) rfl _ _ rfl (ints ys) _ H4.out.2.2.1.range Try.underlying67 rfl HLY.out ?_)
      | ((with_reducible refine (HT2.out _).mono ?_); rintro e w5 ⟨rfl, hb5⟩; have H5 := Aside0.mk (And.intro (below_step H4.out.1 hb5) (And.intro (H4.out.2.1.below hb5) (And.intro (H4.out.2.2.1.below hb5) (H4.out.2.2.2.below hb5)))); clear hb5))
  clear H3 H4
  have hsz5 := H5.out.2.2.2.lt
  have HS2 := H5.out.2.2.2.setAll (ints hZ) rfl
  have HS := Aside0.mk HS2; clear HS2
  have hbad : t1 = false ∨ t2 = false → Aside0 (mrgE xs ys = 2 ∧ mrgR xs ys = hZ) := fun h => by
    have he : mrgE xs ys = 2 := by
      unfold mrgE
      rw [← HZ.out.2.1, ← HZ.out.2.2.2, if_neg]
      rintro ⟨h1, h2⟩
      rcases h with h | h
      · rw [h] at h1; cases h1
      · rw [h] at h2; cases h2
    exact ⟨he, by unfold mrgR; rw [he, if_neg (by decide)]⟩
  have HBAD := Aside0.mk hbad; clear hbad
  have hkw : ∀ W, Kp (fun k => k = b2 + 1 + 1) w5 W → Below w.heap.size w W := fun W hW => by
    have h1 := (Kp.of_below (S := fun k => k = b2 + 1 + 1) H5.out.1).step hW
    exact h1.below_of (fun i hi => by rw [hi, HB2.out]; omega)
  have HKW := Aside0.mk hkw; clear hkw
  cases t1 with
  | false =>
    have HD := HBAD.out (.inl rfl)
    go_wp2_with (first
      | (refine wpList_store_mid rfl 67 (.tmp 4) (.tmp 29) rfl _ _ (ints hZ).toArray rfl rfl (H5.out.2.2.2.there rfl) (i67a hZ_len) (ints_one hZ) ?_))
    refine bodyPost_ret (ret_ct hZ_len rfl HS.out.1) rfl ⟨ret2v (by rw [HD.out.2]) (show Value.int .i64 2 = _ by rw [HD.out.1]), HKW.out _ HS.out.2⟩
  | true =>
    cases t2 with
    | false =>
      have HD := HBAD.out (.inr rfl)
      go_wp2_with (first
        | (refine wpList_store_mid rfl 67 (.tmp 4) (.tmp 29) rfl _ _ (ints hZ).toArray rfl rfl (H5.out.2.2.2.there rfl) (i67a hZ_len) (ints_one hZ) ?_))
      refine bodyPost_ret (ret_ct hZ_len rfl HS.out.1) rfl ⟨ret2v (by rw [HD.out.2]) (show Value.int .i64 2 = _ by rw [HD.out.1]), HKW.out _ HS.out.2⟩
    | true =>
      have hs1 := totF_of xs HZ.out.2.1.symm
      have hs2 := totF_of ys HZ.out.2.2.2.symm
      have hd1 := tot_bd xs HZ.out.2.1.symm
      have hd2 := tot_bd ys HZ.out.2.2.2.symm
      rw [← HZ.out.1] at hs1
      rw [← HZ.out.2.2.1] at hs2
      rw [← hs1] at hd1
      rw [← hs2] at hd2
      have HS12 := Aside0.mk (And.intro hs1 hs2); clear hs1 hs2
      obtain ⟨hd10, hd11⟩ := hd1
      obtain ⟨hd20, hd21⟩ := hd2
      by_cases hbig : 1048576 < n1 + n2
      · have HD : Aside0 (mrgE xs ys = 4 ∧ mrgR xs ys = hZ) := by
          have he : mrgE xs ys = 4 := by
            unfold mrgE
            rw [if_pos ⟨HZ.out.2.1.symm, HZ.out.2.2.2.symm⟩, ← HS12.out.1, ← HS12.out.2, if_pos hbig]
          exact ⟨he, by unfold mrgR; rw [he, if_neg (by decide)]⟩
        go_wp2_with (first
          | (refine wpList_store_mid rfl 67 (.tmp 4) (.tmp 35) rfl _ _ (ints hZ).toArray rfl rfl (H5.out.2.2.2.there rfl) (i67a hZ_len) (ints_one hZ) ?_))
        refine bodyPost_ret (ret_ct hZ_len rfl HS.out.1) rfl ⟨ret2v (by rw [HD.out.2]) (show Value.int .i64 4 = _ by rw [HD.out.1]), HKW.out _ HS.out.2⟩
      · have HD : Aside0 (mrgE xs ys = 0 ∧ mrgR xs ys = mrg xs ys) := by
          have he : mrgE xs ys = 0 := by
            unfold mrgE
            rw [if_pos ⟨HZ.out.2.1.symm, HZ.out.2.2.2.symm⟩, ← HS12.out.1, ← HS12.out.2, if_neg hbig]
          exact ⟨he, by unfold mrgR; rw [he, if_pos rfl]⟩
        have HOKS := Aside0.mk (And.intro (totB_ok HZ.out.2.1.symm) (totB_ok HZ.out.2.2.2.symm))
        go_wp2_with (first
          | (refine wpList_load_mid rfl 67 (.tmp 3) rfl _ _ rfl (ints ys) _ H5.out.2.2.1.range Try.underlying67 rfl HLY.out ?_))
        go_loopw [37] (fun v37 wr => ∃ i : Nat, v37 = .int .i64 i ∧ i ≤ 64 ∧ Aside0 (Kp (fun k => k = b2) w5 wr ∧ Blk wr b2 (ints (mp xs ys i)) 67)) (fun v37 _ => 64 - (intOf v37).toNat)
        case atStart => exact ⟨0, rfl, by omega, ⟨Kp.refl _ _, by rw [mp_zero ys HLE.out.1]; exact H5.out.2.1⟩⟩
        case round =>
          obtain ⟨i, rfl, hi, HW⟩ := hrel
          by_cases hlt : i < 64
          · have hrun := fun W => run_index67 W ys HLE.out.2 i (by omega) (by omega)
            have hzx := hOK_rd HOKS.out.1 i
            have hzy := hOK_rd HOKS.out.2 i
            have hc : wr.cell? ⟨b2, i, none⟩ = some (.int .i64 (rd xs i)) := by
              refine HW.out.2.at_ ?_
              unfold ints
              rw [List.getElem?_map, mp_get xs ys hlt, if_neg (by omega)]
              rfl
            have hset := mp_set xs ys hlt
            obtain ⟨zx, hzxx⟩ : ∃ z, z = rd xs i := ⟨_, rfl⟩
            obtain ⟨zy, hzyy⟩ : ∃ z, z = rd ys i := ⟨_, rfl⟩
            rw [← hzyy] at hrun hzy hset
            rw [← hzxx] at hzx hset hc
            clear hzxx hzyy
            have hfr := HW.out.2.free
            have HN : Aside0 (Kp (fun k => k = b2) w5 (wr.setCell ⟨b2, i, none⟩ (.int .i64 (zx + zy))) ∧ Blk (wr.setCell ⟨b2, i, none⟩ (.int .i64 (zx + zy))) b2 (ints (mp xs ys (i + 1))) 67) := ⟨HW.out.1.setCell (p := ⟨b2, i, none⟩) (fun _ => rfl) _, by
              have := HW.out.2.set i (.int .i64 (zx + zy))
              rw [ints_set, hset] at this
              exact this⟩
            clear hset
            obtain ⟨hzx0, hzx1⟩ := hzx
            obtain ⟨hzy0, hzy1⟩ := hzy
            go_wp2_with fail
            go_roundw
            case rel => exact ⟨i + 1, by go_num, by omega, HN⟩
            case measure => simp [intOf]; omega
          · have hi64 : i = 64 := by omega
            have hblk : Blk wr b2 (ints (mrg xs ys)) 67 := by
              have := HW.out.2
              rwa [hi64, mp_all] at this
            have h4 : Blk wr (b2 + 1 + 1) (ints hZ) 67 := H5.out.2.2.2.kp HW.out.1 (by show ¬ (b2 + 1 + 1 = b2); omega)
            have hset := h4.setAll (ints (mrg xs ys)) (by rw [ints_length, mrg_len]; rfl)
            have HF := Aside0.mk (And.intro hblk (And.intro h4 hset))
            have hkf : Below w.heap.size w (wr.setCells (b2 + 1 + 1) 0 (ints (mrg xs ys))) := by
              have h1 := ((Kp.of_below (S := fun k => k = b2 ∨ k = b2 + 1 + 1) H5.out.1).step (HW.out.1.mono (fun i h => .inl h))).step (hset.2.mono (fun i h => .inr h))
              exact h1.below_of (fun i hi => by rcases hi with hi | hi <;> rw [hi, HB2.out] <;> omega)
            have HKF := Aside0.mk hkf
            clear hi64 hblk h4 hset hkf
            go_wp2_with (first
              | (refine wpList_load_mid rfl 67 (.tmp 2) rfl _ _ rfl (ints (mrg xs ys)) _ HF.out.1.range Try.underlying67 rfl (i67l (mrg_len xs ys)) ?_)
              | (refine wpList_store_mid rfl 67 (.tmp 4) (.tmp 48) rfl _ _ (ints (mrg xs ys)).toArray rfl rfl (HF.out.2.1.there (by rw [List.size_toArray, ints_length, ints_length, mrg_len]; rfl)) (i67a (mrg_len xs ys)) (ints_one _) ?_))
            refine bodyPost_ret (ret_ct (mrg_len xs ys) rfl HF.out.2.2.1) rfl ⟨ret2v (by rw [HD.out.2]) (show Value.int .i64 0 = _ by rw [HD.out.1]), HKF.out⟩
end Go.Proofs.Ythkfahkkcjagdaa

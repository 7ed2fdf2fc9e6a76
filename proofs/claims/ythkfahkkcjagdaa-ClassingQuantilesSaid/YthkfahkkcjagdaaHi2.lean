/- Histograms: sums of diameters, the histogram of both, the mean. -/
import Derived.Test.YthkfahkkcjagdaaHi1
import Derived.Deep.DeepCutAuto
namespace Go.Proofs.Ythkfahkkcjagdaa
open Go.RowKit Go.Proofs.YthkfahkkcjagdaaW.PrintWords Go.Proofs.YthkfahkkcjagdaaW.PrintMore Go.Proofs.YthkfahkkcjagdaaW.PrintLast

theorem run_alloc67 (W : World) : (Instr.alloc 67 true (.tuple #[])).run Try.prog W = .ok (.pointer (some ⟨W.heap.size, 0, none⟩)) (W.alloc (.cells (ints hZ).toArray 67)) := by kernel_rfl
/-- A new variable, and a histogram stored into it. -/
theorem wpl_new67 {ops : Array Oper} {rest : List Oper} {o1 o2 : Oper} {a : Act} {Q : Exit → Act → World → Prop} {W : World} (hg1 : o1.guard = none) (hg2 : o2.guard = none) (d : Tmp) (hd1 : o1.dst = some d) (hd2 : o2.dst = none) (h1 : o1.op = .alloc 67) (x y : Operand) (h2 : o2.op = .store 67 x y)
    (xs : List Int) (hl : xs.length = 64) (hx : (a.put (some d) (.pointer (some ⟨W.heap.size, 0, none⟩))).eval x = .pointer (some ⟨W.heap.size, 0, none⟩)) (hy : (a.put (some d) (.pointer (some ⟨W.heap.size, 0, none⟩))).eval y = .agg (ints xs).toArray)
    (h : ∀ w', Below W.heap.size W w' → Blk w' W.heap.size (ints xs) 67 → wpList Try.prog ops Q rest ((a.put (some d) (.pointer (some ⟨W.heap.size, 0, none⟩))).put none undef) w') :
    wpList Try.prog ops Q (o1 :: o2 :: rest) a W := by
  refine wpList_plain hg1 fun K hK => ?_
  have hrun : (execOp a.eval o1).run Try.prog W = .ok (.value (.pointer (some ⟨W.heap.size, 0, none⟩))) (W.alloc (.cells (ints hZ).toArray 67)) := by
    unfold execOp
    simp only [h1]
    rw [Sem.run_bind, run_alloc67]
    rfl
  unfold Oper.wp
  rw [hrun, Oper.upon]
  refine hK _ _ ?_
  have hb := Blk.new W (ints hZ) 67
  have hs := hb.setAll (ints xs) (by rw [ints_length, ints_length, hl]; rfl)
  rw [hd1]
  refine wpList_store_mid hg2 67 x y h2 _ _ (ints xs).toArray hx hy (hb.there (by rw [List.size_toArray, ints_length, ints_length, hl]; rfl)) (i67a hl) (ints_one xs) ?_
  rw [hd2]
  exact h _ (((Kp.refl (fun k => k = W.heap.size) W).alloc (.cells (ints hZ).toArray 67)).step (hs.2.mono' (fun i _ hi => hi) |>.mono (fun _ h => h)) |>.below_of (fun i hi => Nat.le_of_eq hi.symm)) hs.1
/-! ### The sums -/
def oneF (xs : List Int) : Nat → Int
  | 0 => 0
  | n + 1 => oneF xs n + n * rd xs n
def twoF (xs : List Int) : Nat → Int
  | 0 => 0
  | n + 1 => twoF xs n + n * n * rd xs n
theorem hOK_rd {xs : List Int} (h : xs.all hOK = true) (i : Int) : 0 ≤ rd xs i ∧ rd xs i ≤ 1048576 := by
  unfold rd
  rw [List.getD_eq_getElem?_getD]
  cases e : xs[i.toNat]? with
  | none => simp
  | some x =>
    have := List.all_eq_true.1 h x (List.mem_of_getElem? e)
    unfold hOK at this
    rw [decide_eq_true_eq] at this
    exact this
theorem mul_le' {i : Nat} (hi : i ≤ 63) {z : Int} (hz : 0 ≤ z ∧ z ≤ 1048576) : 0 ≤ (i : Int) * z ∧ (i : Int) * z ≤ 66060288 := by
  have := mul_bd (x := (i : Int)) (y := z) (a := 63) (b := 1048576) (by omega) (by omega) hz.1 hz.2
  omega
theorem mul_le2 {i : Nat} (hi : i ≤ 63) {z : Int} (hz : 0 ≤ z ∧ z ≤ 1048576) : 0 ≤ (i : Int) * i * z ∧ (i : Int) * i * z ≤ 4161798144 := by
  have h1 := mul_bd (x := (i : Int)) (y := (i : Int)) (a := 63) (b := 63) (by omega) (by omega) (by omega) (by omega)
  have := mul_bd (x := (i : Int) * i) (y := z) (a := 3969) (b := 1048576) h1.1 (by omega) hz.1 hz.2
  omega
theorem oneF_bd {xs : List Int} (h : xs.all hOK = true) : ∀ n, n ≤ 64 → 0 ≤ oneF xs n ∧ oneF xs n ≤ n * 66060288
  | 0, _ => by simp [oneF]
  | n + 1, hn => by
    have h1 := oneF_bd h n (by omega)
    have h2 := mul_le' (show n ≤ 63 by omega) (hOK_rd h n)
    show 0 ≤ oneF xs n + n * rd xs n ∧ oneF xs n + n * rd xs n ≤ ((n + 1 : Nat) : Int) * 66060288
    omega
theorem twoF_bd {xs : List Int} (h : xs.all hOK = true) : ∀ n, n ≤ 64 → 0 ≤ twoF xs n ∧ twoF xs n ≤ n * 4161798144
  | 0, _ => by simp [twoF]
  | n + 1, hn => by
    have h1 := twoF_bd h n (by omega)
    have h2 := mul_le2 (show n ≤ 63 by omega) (hOK_rd h n)
    show 0 ≤ twoF xs n + n * n * rd xs n ∧ twoF xs n + n * n * rd xs n ≤ ((n + 1 : Nat) : Int) * 4161798144
    omega
set_option maxHeartbeats 4000000 in
set_option maxRecDepth 100000 in
theorem sums_any (w : World) (xs : List Int) (hl : xs.length = 64) (hok : xs.all hOK = true) :
    Calls Try.prog 82 #[.agg (ints xs).toArray] w fun e w' => e = .returned (.tuple #[.int .i64 (oneF xs 64), .int .i64 (twoF xs 64)]) ∧ Below w.heap.size w w' := by
  have b1 := below_alloc (Below.refl w.heap.size w) (.cells (ints xs).toArray 67)
  have q1 := (Blk.new w (ints xs) 67).range
  have H1 := Aside0.mk (And.intro b1 q1)
  have HL := Aside0.mk (i67l hl)
  have HLI := Aside0.mk (And.intro hl hok)
  clear b1 q1 hl hok
  go_enter Try.func82, Try.ntmps82
  go_wp2_with ((refine wpList_load_mid rfl 67 (.tmp 1) rfl _ _ rfl (ints xs) _ H1.out.2 Try.underlying67 rfl HL.out ?_))
  go_loopw [2, 3, 7] (fun v2 v3 v7 wr => ∃ (i : Nat) (s t : Int), v7 = .int .i64 i ∧ i ≤ 64 ∧ v2 = .int .i64 s ∧ v3 = .int .i64 t ∧ (0 ≤ s ∧ s ≤ i * 66060288) ∧ (0 ≤ t ∧ t ≤ i * 4161798144) ∧ Aside0 (s = oneF xs i ∧ t = twoF xs i) ∧ wr = w.alloc (.cells (ints xs).toArray 67)) (fun _ _ v7 _ => 64 - (intOf v7).toNat)
  case atStart => exact ⟨0, 0, 0, rfl, by omega, rfl, rfl, by omega, by omega, ⟨rfl, rfl⟩, rfl⟩
  case round =>
    obtain ⟨i, s, t, rfl, hi, rfl, rfl, ⟨hs0, hs1⟩, ⟨ht0, ht1⟩, HX, rfl⟩ := hrel
    by_cases hlt : i < 64
    · have hrun := fun W => run_index67 W xs HLI.out.1 i (by omega) (by omega)
      have hz := hOK_rd HLI.out.2 i
      have HN : Aside0 (oneF xs (i + 1) = s + i * rd xs i ∧ twoF xs (i + 1) = t + i * i * rd xs i) := ⟨by rw [HX.out.1]; rfl, by rw [HX.out.2]; rfl⟩
      obtain ⟨z, hzz⟩ : ∃ z, z = rd xs i := ⟨_, rfl⟩
      rw [← hzz] at hrun hz HN
      clear hzz
      have h1 := mul_le' (show i ≤ 63 by omega) hz
      have h2 := mul_le2 (show i ≤ 63 by omega) hz
      have h3 := mul_bd (x := (i : Int)) (y := (i : Int)) (a := 63) (b := 63) (by omega) (by omega) (by omega) (by omega)
      obtain ⟨p, hp⟩ : ∃ p, p = (i : Int) * z := ⟨_, rfl⟩
      obtain ⟨q, hq⟩ : ∃ q, q = (i : Int) * i := ⟨_, rfl⟩
      rw [← hp] at h1 HN
      rw [← hq] at h2 h3 HN
      obtain ⟨r, hr⟩ : ∃ r, r = q * z := ⟨_, rfl⟩
      rw [← hr] at h2 HN
      have hp2 := hp.symm
      have hq2 := hq.symm
      have hr2 := hr.symm
      clear hp hq hr
      obtain ⟨h10, h11⟩ := h1
      obtain ⟨h20, h21⟩ := h2
      obtain ⟨h30, h31⟩ := h3
      go_wp2_with fail
      go_roundw
      case rel => exact ⟨i + 1, s + p, t + r, by go_num, by omega, by go_num, by go_num, by omega, by omega, ⟨HN.out.1.symm, HN.out.2.symm⟩, trivial⟩
      case measure => simp [intOf]; omega
    · have hi64 : i = 64 := by omega
      have HXX : Aside0 (s = oneF xs 64 ∧ t = twoF xs 64) := ⟨by rw [← hi64]; exact HX.out⟩
      clear hi64
      go_wp2_with fail
      go_ret2
      exact ⟨ret2v (show Value.int .i64 s = _ by rw [HXX.out.1]) (show Value.int .i64 t = _ by rw [HXX.out.2]), H1.out.1⟩
/-! ### The mean -/
theorem totB_ok {xs : List Int} (h : totB xs = true) : xs.all hOK = true := by
  unfold totB at h
  rw [Bool.and_eq_true] at h
  exact h.1
def micV (xs : List Int) : Int := if cntE xs = 0 then evenF (oneF xs 64 * 100) xs.sum else 0
theorem cntE_cases (xs : List Int) : cntE xs = 0 ∨ cntE xs = 2 ∨ cntE xs = 5 := by
  unfold cntE
  split
  · split
    · exact .inr (.inr rfl)
    · exact .inl rfl
  · exact .inr (.inl rfl)
theorem cntE_zero {xs : List Int} (h : cntE xs = 0) : totB xs = true ∧ 1 ≤ xs.sum ∧ xs.sum ≤ 1048576 := by
  unfold cntE at h
  split at h
  · rename_i h1
    split at h
    · omega
    · have := tot_bd xs h1
      exact ⟨h1, by omega, this.2⟩
  · omega
set_option maxHeartbeats 4000000 in
set_option maxRecDepth 100000 in
theorem micron_any (w : World) (xs : List Int) (hl : xs.length = 64) :
    Calls Try.prog 39 #[.agg (ints xs).toArray] w fun e w' => e = .returned (.tuple #[.int .i64 (micV xs), .int .i64 (cntE xs)]) ∧ Below w.heap.size w w' := by
  have b1 := below_alloc (Below.refl w.heap.size w) (.cells (ints xs).toArray 67)
  have q1 := Blk.new w (ints xs) 67
  have HT := Aside0.mk (fun W => counted_any W xs hl)
  have H1 := Aside0.mk (And.intro b1 q1)
  have HL := Aside0.mk (i67l hl)
  have hlen := hl
  have HLEN := Aside0.mk hl
  clear b1 q1 hl hlen
  by_cases h0 : cntE xs = 0
  · have hz := cntE_zero h0
    have HSU := Aside0.mk (fun W => sums_any W xs HLEN.out (totB_ok hz.1))
    have ho := oneF_bd (totB_ok hz.1) 64 (by omega)
    have HV : Aside0 (cntV xs = xs.sum ∧ micV xs = evenF (oneF xs 64 * 100) xs.sum) := ⟨by unfold cntV; rw [if_pos h0], by unfold micV; rw [if_pos h0]⟩
    rw [HV.out.1, h0] at HT
    obtain ⟨_, hs1, hs2⟩ := hz
    obtain ⟨ho1, ho2⟩ := ho
    have HE := Aside0.mk (fun W => even_any W (oneF xs 64 * 100) xs.sum (by omega) (by omega))
    obtain ⟨s, hs⟩ : ∃ s, s = xs.sum := ⟨_, rfl⟩
    obtain ⟨o, ho⟩ : ∃ o, o = oneF xs 64 := ⟨_, rfl⟩
    obtain ⟨t, ht⟩ : ∃ t, t = twoF xs 64 := ⟨_, rfl⟩
    obtain ⟨r, hr⟩ : ∃ r, r = evenF (oneF xs 64 * 100) xs.sum := ⟨_, rfl⟩
    rw [← hr] at HE
    rw [← hs] at HT HE hs1 hs2
    rw [← ho, ← ht] at HSU
    rw [← ho] at HE ho1 ho2
    have HR := Aside0.mk (And.intro hr h0)
    clear hr h0 hs ho ht
    go_enter Try.func39, Try.ntmps39
    go_wp2_with (first
      | (refine wpList_load_mid rfl 67 (.tmp 1) rfl _ _ rfl (ints xs) _ (by first | exact H1.out.2.range | exact HB2.out.2.range) Try.underlying67 rfl HL.out ?_)
      | ((with_reducible refine (HT.out _).mono ?_); rintro e w2 ⟨rfl, hb2⟩; have HB2 := Aside0.mk (And.intro (below_step H1.out.1 hb2) (H1.out.2.below hb2)); clear hb2)
      | ((with_reducible refine (HSU.out _).mono ?_); rintro e w3 ⟨rfl, hb3⟩; have HB3 := Aside0.mk (below_step HB2.out.1 hb3); clear hb3)
      | ((with_reducible refine (HE.out _).mono ?_); rintro e w4 ⟨rfl, hb4⟩; have HB4 := Aside0.mk (below_step HB3.out hb4); clear hb4))
    go_ret2
    exact ⟨ret2v (show Value.int .i64 r = _ by rw [HV.out.2, HR.out.1]) (show Value.int .i64 0 = _ by rw [HR.out.2]), HB4.out⟩
  · have HV : Aside0 (cntV xs = 0 ∧ micV xs = 0) := ⟨by unfold cntV; rw [if_neg h0], by unfold micV; rw [if_neg h0]⟩
    rw [HV.out.1] at HT
    obtain ⟨c, hc⟩ : ∃ c, c = cntE xs := ⟨_, rfl⟩
    rw [← hc] at HT h0
    have HCC := Aside0.mk hc; clear hc
    have hcb : (c != 0) = true := by simpa using h0
    go_enter Try.func39, Try.ntmps39
    go_wp2_with (first
      | (refine wpList_load_mid rfl 67 (.tmp 1) rfl _ _ rfl (ints xs) _ H1.out.2.range Try.underlying67 rfl HL.out ?_)
      | ((with_reducible refine (HT.out _).mono ?_); rintro e w2 ⟨rfl, hb2⟩; have HB2 := Aside0.mk (below_step H1.out.1 hb2); clear hb2))
    go_ret2
    exact ⟨ret2v (show Value.int .i64 0 = _ by rw [HV.out.2]) (show Value.int .i64 c = _ by rw [HCC.out]), HB2.out⟩
end Go.Proofs.Ythkfahkkcjagdaa

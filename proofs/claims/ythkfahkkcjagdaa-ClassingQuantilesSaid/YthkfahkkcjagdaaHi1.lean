/- Histograms: arrays of 64 counts by value: their totals, sums, and the histogram of both. -/
import Derived.Test.YthkfahkkcjagdaaD2
import Derived.Deep.MidRow
namespace Go.Proofs.Ythkfahkkcjagdaa
open Go.RowKit Go.Proofs.YthkfahkkcjagdaaW.PrintWords Go.Proofs.YthkfahkkcjagdaaW.PrintMore Go.Proofs.YthkfahkkcjagdaaW.PrintLast

theorem i67 : (Try.prog.info? 67).map (·.size) = some 64 := by kernel_rfl
theorem Blk.range {w : World} {b : Nat} {cs : List Value} {t : TypeId} (h : Blk w b cs t) : w.rangeAt b 0 cs := fun j v hv => by rw [Nat.zero_add]; exact h.at_ hv
theorem i67l {xs : List Int} (h : xs.length = 64) : (Try.prog.info? 67).map (·.size) = some (ints xs).length := by rw [ints_length, h]; exact i67
theorem i67a {xs : List Int} (h : xs.length = 64) : (Try.prog.info? 67).map (·.size) = some (ints xs).toArray.size := by rw [List.size_toArray, ints_length, h]; exact i67
theorem ints_one (xs : List Int) : (ints xs).toArray.all (·.oneCell') = true := all_oneCell_toArray (fun v hv => by
  obtain ⟨x, _, rfl⟩ := List.mem_map.1 hv
  rfl)
theorem Blk.there {w : World} {b n : Nat} {cs : List Value} {t : TypeId} (h : Blk w b cs t) (hn : n = cs.length) : w.there b 0 n := fun j hj => by
  rw [Nat.zero_add]
  have hg : cs[j]? = some cs[j] := List.getElem?_eq_getElem (by omega)
  exact ⟨by rw [h.at_ hg]; rfl, h.free j⟩
theorem Blk.setFrom {b : Nat} {t : TypeId} : ∀ (vs pre cs : List Value) (w : World), Blk w b (pre ++ cs) t → vs.length = cs.length → Blk (w.setCells b pre.length vs) b (pre ++ vs) t ∧ Kp (fun k => k = b) w (w.setCells b pre.length vs)
  | [], pre, cs, w, h, hl => by
    have : cs = [] := List.length_eq_zero_iff.1 hl.symm
    subst this
    exact ⟨h, Kp.refl _ _⟩
  | v :: vs, pre, [], w, h, hl => by simp at hl
  | v :: vs, pre, c :: cs, w, h, hl => by
    have h1 := h.set pre.length v
    have e : (pre ++ c :: cs).set pre.length v = (pre ++ [v]) ++ cs := by simp
    rw [e] at h1
    have h2 := Blk.setFrom vs (pre ++ [v]) cs _ h1 (by simpa using hl)
    rw [List.length_append, List.length_singleton] at h2
    show Blk ((w.setCell ⟨b, pre.length, none⟩ v).setCells b (pre.length + 1) vs) b (pre ++ v :: vs) t ∧ Kp _ w ((w.setCell ⟨b, pre.length, none⟩ v).setCells b (pre.length + 1) vs)
    refine ⟨by simpa using h2.1, ((Kp.refl (fun k => k = b) w).setCell (p := ⟨b, pre.length, none⟩) (fun _ => rfl) v).step h2.2⟩
/-- A whole block is written. -/
theorem Blk.setAll {w : World} {b : Nat} {cs : List Value} {t : TypeId} (h : Blk w b cs t) (vs : List Value) (hl : vs.length = cs.length) : Blk (w.setCells b 0 vs) b vs t ∧ Kp (fun k => k = b) w (w.setCells b 0 vs) :=
  Blk.setFrom vs [] cs w h hl
def hZ : List Int := List.replicate 64 0
theorem hZ_len : hZ.length = 64 := rfl
theorem z64 : (#[.int .i64 0, .int .i64 0, .int .i64 0, .int .i64 0, .int .i64 0, .int .i64 0, .int .i64 0, .int .i64 0, .int .i64 0, .int .i64 0, .int .i64 0, .int .i64 0, .int .i64 0, .int .i64 0, .int .i64 0, .int .i64 0, .int .i64 0, .int .i64 0, .int .i64 0, .int .i64 0, .int .i64 0, .int .i64 0, .int .i64 0, .int .i64 0, .int .i64 0, .int .i64 0, .int .i64 0, .int .i64 0, .int .i64 0, .int .i64 0, .int .i64 0, .int .i64 0, .int .i64 0, .int .i64 0, .int .i64 0, .int .i64 0, .int .i64 0, .int .i64 0, .int .i64 0, .int .i64 0, .int .i64 0, .int .i64 0, .int .i64 0, .int .i64 0, .int .i64 0, .int .i64 0, .int .i64 0, .int .i64 0, .int .i64 0, .int .i64 0, .int .i64 0, .int .i64 0, .int .i64 0, .int .i64 0, .int .i64 0, .int .i64 0, .int .i64 0, .int .i64 0, .int .i64 0, .int .i64 0, .int .i64 0, .int .i64 0, .int .i64 0, .int .i64 0] : Array Value) = (ints hZ).toArray := rfl
theorem run_index67 (w : World) (xs : List Int) (hl : xs.length = 64) (i : Int) (h0 : 0 ≤ i) (h1 : i < 64) : (Instr.index 67 (.agg (ints xs).toArray) (.int .i64 i)).run Try.prog w = .ok (.int .i64 (rd xs i)) w := by
  have hg : (ints xs)[i.toNat]? = some (.int .i64 (rd xs i)) := ints_get xs (i := i.toNat) (by omega)
  have hu := run_underlying (P := Try.prog) Try.underlying67 w
  simp [Instr.index, hu, asIntOf, part, isAgg, hg, h0, h1]
/-! ### Two histograms compared -/
theorem run_equalIn_i64 {P : Program} (w : World) (d : Nat) (t e : TypeId) (n : Nat) (ht : P.underlying t = some (.array n e)) (he : P.underlying e = some (.int .i64)) (hsz : ∀ w, (sizeOf e).run P w = .ok 1 w)
    (xs ys : List Int) (hx : xs.length = n) (hy : ys.length = n) :
    (Op.equalIn (d + 2) t (.agg (ints xs).toArray) (.agg (ints ys).toArray)).run P w = .ok (xs == ys) w := by
  rw [← all_range_eqI xs ys (hx.trans hy.symm), hx, List.range_eq_range', Op.equalIn]
  simp only [Sem.run_bind, run_underlying ht, Result.andThen_ok, hsz, Std.Legacy.Range.forIn_eq_forIn_range', Std.Legacy.Range.size, Nat.sub_zero, Nat.add_sub_cancel, Nat.div_one]
  have hl : ∀ i ∈ List.range' 0 n 1, i < n := fun i hi => by simpa using (List.mem_range'_1.1 hi).2
  generalize List.range' 0 n 1 = l at hl ⊢
  induction l with
  | nil => simp
  | cons i l ih =>
    have hi : i < n := hl i (by simp)
    have px : (part e (ints xs).toArray (i * 1)).run P w = .ok (.int .i64 (xs.getD i 0)) w := by
      simp [part, isAgg, run_underlying he, ints, List.getD, List.getElem?_eq_getElem (show i < xs.length by omega)]
    have py : (part e (ints ys).toArray (i * 1)).run P w = .ok (.int .i64 (ys.getD i 0)) w := by
      simp [part, isAgg, run_underlying he, ints, List.getD, List.getElem?_eq_getElem (show i < ys.length by omega)]
    have pe : (Op.equalIn (d + 1) e (.int .i64 (xs.getD i 0)) (.int .i64 (ys.getD i 0))).run P w = .ok (xs.getD i 0 == ys.getD i 0) w := by
      rw [run_equalIn_int w d e .i64 .i64 _ _ he]
    simp only [List.forIn_cons, Sem.run_bind, px, py, pe, Result.andThen_ok, List.all_cons]
    cases hb : (xs.getD i 0 == ys.getD i 0)
    · simp
    · simp only [Bool.not_true, Bool.false_eq_true, if_false, Sem.run_pure, Result.andThen_ok, Bool.true_and]
      exact ih fun j hj => hl j (by simp [hj])
theorem hist_eql (w : World) {xs ys : List Int} (hx : xs.length = 64) (hy : ys.length = 64) : (Op.equalIn 10000 67 (.agg (ints xs).toArray) (.agg (ints ys).toArray)).run Try.prog w = .ok (decide (xs = ys)) w := by
  have h := run_equalIn_i64 (P := Try.prog) w 9998 67 3 64 Try.underlying67 Try.underlying3 Try.sizeOf3 xs ys hx hy
  rw [show (xs == ys) = decide (xs = ys) by rw [Bool.eq_iff_iff]; simp] at h
  exact h
/-! ### The total -/
/-- What the total of a histogram is, and whether it is one. -/
def hOK (x : Int) : Bool := decide (0 ≤ x ∧ x ≤ 1048576)
def totF (xs : List Int) : Int := if xs.all hOK = true then xs.sum else 0
def totB (xs : List Int) : Bool := xs.all hOK && decide (xs.sum ≤ 1048576)
theorem ret2v {a b a' b' : Value} (h1 : a = a') (h2 : b = b') : Ending.returned (.tuple #[a, b]) = .returned (.tuple #[a', b']) := by rw [h1, h2]
theorem take_rd (xs : List Int) {i : Nat} (h : i < xs.length) : xs.take (i + 1) = xs.take i ++ [rd xs i] := by
  rw [List.take_succ_eq_append_getElem h]
  simp [rd, List.getD_eq_getElem?_getD, List.getElem?_eq_getElem h]
set_option maxHeartbeats 4000000 in
set_option maxRecDepth 100000 in
theorem total_any (w : World) (xs : List Int) (hl : xs.length = 64) :
    Calls Try.prog 80 #[.agg (ints xs).toArray] w fun e w' => e = .returned (.tuple #[.int .i64 (totF xs), .bool (totB xs)]) ∧ Below w.heap.size w w' := by
  have b1 := below_alloc (Below.refl w.heap.size w) (.cells (ints xs).toArray 67)
  have q1 := (Blk.new w (ints xs) 67).range
  have H1 := Aside0.mk (And.intro b1 q1)
  have HL := Aside0.mk (i67l hl)
  have HLI := Aside0.mk hl
  clear b1 q1 hl
  go_enter Try.func80, Try.ntmps80
  go_wp2_with ((refine wpList_load_mid rfl 67 (.tmp 1) rfl _ _ rfl (ints xs) _ H1.out.2 Try.underlying67 rfl HL.out ?_))
  go_loopw [4, 8] (fun v4 v8 wr => ∃ (i : Nat) (s : Int), v8 = .int .i64 i ∧ i ≤ 64 ∧ v4 = .int .i64 s ∧ (0 ≤ s ∧ s ≤ i * 1048576) ∧ Aside0 (s = (xs.take i).sum ∧ (xs.take i).all hOK = true) ∧ wr = w.alloc (.cells (ints xs).toArray 67)) (fun _ v8 _ => 64 - (intOf v8).toNat)
  case atStart => exact ⟨0, 0, rfl, by omega, rfl, by omega, ⟨rfl, rfl⟩, rfl⟩
  case round =>
    obtain ⟨i, s, rfl, hi, rfl, ⟨hs0, hs1⟩, HX, rfl⟩ := hrel
    by_cases hlt : i < 64
    · have hrun := fun W => run_index67 W xs HLI.out i (by omega) (by omega)
      have htk := take_rd xs (i := i) (by rw [HLI.out]; omega)
      obtain ⟨z, hz⟩ : ∃ z, z = rd xs i := ⟨_, rfl⟩
      rw [← hz] at hrun htk
      have hzm : z ∈ xs := by
        have : z ∈ xs.take (i + 1) := by rw [htk]; simp
        exact List.mem_of_mem_take this
      have HT := Aside0.mk (And.intro htk hzm); clear htk hzm hz
      by_cases h1 : z < 0
      · have hno : Aside0 (xs.all hOK = false) := ⟨by
          rw [List.all_eq_false]
          exact ⟨z, HT.out.2, by unfold hOK; rw [decide_eq_true_eq]; omega⟩⟩
        go_wp2_with fail
        go_ret2
        exact ⟨ret2v (show Value.int .i64 0 = _ by unfold totF; rw [hno.out]; rfl) (show Value.bool false = _ by unfold totB; rw [hno.out]; rfl), H1.out.1⟩
      · by_cases h2 : 1048576 < z
        · have hno : Aside0 (xs.all hOK = false) := ⟨by
            rw [List.all_eq_false]
            exact ⟨z, HT.out.2, by unfold hOK; rw [decide_eq_true_eq]; omega⟩⟩
          go_wp2_with fail
          go_ret2
          exact ⟨ret2v (show Value.int .i64 0 = _ by unfold totF; rw [hno.out]; rfl) (show Value.bool false = _ by unfold totB; rw [hno.out]; rfl), H1.out.1⟩
        · have hok : hOK z = true := decide_eq_true (by omega)
          have HOK := Aside0.mk hok; clear hok
          go_wp2_with fail
          go_roundw
          case rel => exact ⟨i + 1, s + z, by go_num, by omega, by go_num, by omega, ⟨by rw [HT.out.1, List.sum_append, ← HX.out.1]; simp, by rw [HT.out.1, List.all_append, HX.out.2]; simp [HOK.out]⟩, trivial⟩
          case measure => simp [intOf]; omega
    · have hi64 : i = 64 := by omega
      have hx1 := HX.out.1
      have hx2 := HX.out.2
      rw [List.take_of_length_le (by rw [HLI.out]; omega)] at hx1 hx2
      have HXX := Aside0.mk (And.intro hx1 hx2)
      clear hx1 hx2
      have hcl : Aside0 (decide (s ≤ 1048576) = decide (xs.sum ≤ 1048576)) := ⟨by rw [HXX.out.1]⟩
      clear hi64
      go_wp2_with fail
      go_ret2
      exact ⟨ret2v (show Value.int .i64 s = _ by unfold totF; rw [HXX.out.2, if_pos rfl, HXX.out.1]) (show Value.bool (decide (s ≤ 1048576)) = _ by unfold totB; rw [HXX.out.2, ← HXX.out.1, Bool.true_and]), H1.out.1⟩
/-- What Total answers. -/
def totE (xs : List Int) : Int := if totB xs = true then 0 else 2
def totV (xs : List Int) : Int := if totB xs = true then xs.sum else 0
theorem totF_of (xs : List Int) (h : totB xs = true) : totF xs = xs.sum := by
  unfold totB at h
  rw [Bool.and_eq_true] at h
  unfold totF
  rw [if_pos h.1]
theorem sum_nonneg' {xs : List Int} (h : xs.all hOK = true) : 0 ≤ xs.sum := by
  induction xs with
  | nil => exact Int.le_refl _
  | cons x xs ih =>
    rw [List.all_cons, Bool.and_eq_true] at h
    have := ih h.2
    have h1 := h.1
    unfold hOK at h1
    rw [decide_eq_true_eq] at h1
    rw [List.sum_cons]
    omega
theorem tot_bd (xs : List Int) (h : totB xs = true) : 0 ≤ xs.sum ∧ xs.sum ≤ 1048576 := by
  unfold totB at h
  rw [Bool.and_eq_true, decide_eq_true_eq] at h
  exact ⟨sum_nonneg' h.1, h.2⟩
theorem Total_any (w : World) (xs : List Int) (hl : xs.length = 64) :
    Calls Try.prog 38 #[.agg (ints xs).toArray] w fun e w' => e = .returned (.tuple #[.int .i64 (totV xs), .int .i64 (totE xs)]) ∧ Below w.heap.size w w' := by
  have b1 := below_alloc (Below.refl w.heap.size w) (.cells (ints xs).toArray 67)
  have q1 := (Blk.new w (ints xs) 67).range
  have HT := Aside0.mk (fun W => total_any W xs hl)
  have H1 := Aside0.mk (And.intro b1 q1)
  have HL := Aside0.mk (i67l hl)
  clear b1 q1 hl
  obtain ⟨z, hz⟩ : ∃ z, z = totF xs := ⟨_, rfl⟩
  obtain ⟨b, hb⟩ : ∃ b, b = totB xs := ⟨_, rfl⟩
  rw [← hz, ← hb] at HT
  have HZ := Aside0.mk (And.intro hz hb); clear hz hb
  go_enter Try.func38, Try.ntmps38
  cases b with
  | true =>
    go_wp2_with (first | (refine wpList_load_mid rfl 67 (.tmp 1) rfl _ _ rfl (ints xs) _ H1.out.2 Try.underlying67 rfl HL.out ?_) | ((with_reducible refine (HT.out _).mono ?_); rintro e w2 ⟨rfl, hb2⟩; have HB2 := Aside0.mk (below_step H1.out.1 hb2); clear hb2))
    go_ret2
    exact ⟨ret2v (show Value.int .i64 z = _ by unfold totV; rw [← HZ.out.2, if_pos rfl, HZ.out.1, totF_of xs HZ.out.2.symm]) (show Value.int .i64 0 = _ by unfold totE; rw [← HZ.out.2, if_pos rfl]), HB2.out⟩
  | false =>
    go_wp2_with (first | (refine wpList_load_mid rfl 67 (.tmp 1) rfl _ _ rfl (ints xs) _ H1.out.2 Try.underlying67 rfl HL.out ?_) | ((with_reducible refine (HT.out _).mono ?_); rintro e w2 ⟨rfl, hb2⟩; have HB2 := Aside0.mk (below_step H1.out.1 hb2); clear hb2))
    go_ret2
    exact ⟨ret2v (show Value.int .i64 0 = _ by unfold totV; rw [← HZ.out.2, if_neg (by decide)]) (show Value.int .i64 2 = _ by unfold totE; rw [← HZ.out.2, if_neg (by decide)]), HB2.out⟩
/-- The total of what is measured: an error where there is none. -/
def cntE (xs : List Int) : Int := if totB xs = true then (if xs.sum = 0 then 5 else 0) else 2
def cntV (xs : List Int) : Int := if cntE xs = 0 then xs.sum else 0
theorem counted_any (w : World) (xs : List Int) (hl : xs.length = 64) :
    Calls Try.prog 81 #[.agg (ints xs).toArray] w fun e w' => e = .returned (.tuple #[.int .i64 (cntV xs), .int .i64 (cntE xs)]) ∧ Below w.heap.size w w' := by
  have b1 := below_alloc (Below.refl w.heap.size w) (.cells (ints xs).toArray 67)
  have q1 := (Blk.new w (ints xs) 67).range
  have HT := Aside0.mk (fun W => total_any W xs hl)
  have H1 := Aside0.mk (And.intro b1 q1)
  have HL := Aside0.mk (i67l hl)
  clear b1 q1 hl
  obtain ⟨z, hz⟩ : ∃ z, z = totF xs := ⟨_, rfl⟩
  obtain ⟨b, hb⟩ : ∃ b, b = totB xs := ⟨_, rfl⟩
  rw [← hz, ← hb] at HT
  have HZ := Aside0.mk (And.intro hz hb); clear hz hb
  cases b with
  | true =>
    have hzs : Aside0 (z = xs.sum) := ⟨by rw [HZ.out.1, totF_of xs HZ.out.2.symm]⟩
    by_cases h0 : z = 0
    · have HE : Aside0 (cntE xs = 5) := ⟨by unfold cntE; rw [← HZ.out.2, if_pos rfl, ← hzs.out, if_pos h0]⟩
      subst h0
      go_enter Try.func81, Try.ntmps81
      go_wp2_with (first | (refine wpList_load_mid rfl 67 (.tmp 1) rfl _ _ rfl (ints xs) _ H1.out.2 Try.underlying67 rfl HL.out ?_) | ((with_reducible refine (HT.out _).mono ?_); rintro e w2 ⟨rfl, hb2⟩; have HB2 := Aside0.mk (below_step H1.out.1 hb2); clear hb2))
      go_ret2
      exact ⟨ret2v (show Value.int .i64 0 = _ by unfold cntV; rw [HE.out]; rfl) (show Value.int .i64 5 = _ by rw [HE.out]), HB2.out⟩
    · have HE : Aside0 (cntE xs = 0) := ⟨by unfold cntE; rw [← HZ.out.2, if_pos rfl, ← hzs.out, if_neg h0]⟩
      have hzb : (z == 0) = false := by simpa using h0
      go_enter Try.func81, Try.ntmps81
      go_wp2_with (first | (refine wpList_load_mid rfl 67 (.tmp 1) rfl _ _ rfl (ints xs) _ H1.out.2 Try.underlying67 rfl HL.out ?_) | ((with_reducible refine (HT.out _).mono ?_); rintro e w2 ⟨rfl, hb2⟩; have HB2 := Aside0.mk (below_step H1.out.1 hb2); clear hb2))
      go_ret2
      exact ⟨ret2v (show Value.int .i64 z = _ by unfold cntV; rw [HE.out, if_pos rfl, hzs.out]) (show Value.int .i64 0 = _ by rw [HE.out]), HB2.out⟩
  | false =>
    have HE : Aside0 (cntE xs = 2) := ⟨by unfold cntE; rw [← HZ.out.2, if_neg (by decide)]⟩
    go_enter Try.func81, Try.ntmps81
    go_wp2_with (first | (refine wpList_load_mid rfl 67 (.tmp 1) rfl _ _ rfl (ints xs) _ H1.out.2 Try.underlying67 rfl HL.out ?_) | ((with_reducible refine (HT.out _).mono ?_); rintro e w2 ⟨rfl, hb2⟩; have HB2 := Aside0.mk (below_step H1.out.1 hb2); clear hb2))
    go_ret2
    exact ⟨ret2v (show Value.int .i64 0 = _ by unfold cntV; rw [HE.out]; rfl) (show Value.int .i64 2 = _ by rw [HE.out]), HB2.out⟩
end Go.Proofs.Ythkfahkkcjagdaa

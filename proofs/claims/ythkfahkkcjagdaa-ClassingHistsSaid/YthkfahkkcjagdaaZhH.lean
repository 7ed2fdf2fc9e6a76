/- Texts of this claim and words of the kit's print, trimmed to what it uses and joined. -/
import Derived.Deep.MidRow
import Derived.Deep.DeepCutAuto
import Derived.Test.YthkfahkkcjagdaaZhD2
section
namespace Go.Proofs.Ythkfahkkcjagdaa
open Go.RowKit Go.Proofs.YthkfahkkcjagdaaW.PrintWords Go.Proofs.YthkfahkkcjagdaaW.PrintMore Go.Proofs.YthkfahkkcjagdaaW.PrintLast

theorem i67 : (Try.prog.info? 67).map (·.size) = some 64 := by kernel_rfl
theorem Blk.range {w : World} {b : Nat} {cs : List Value} {t : TypeId} (h : Blk w b cs t) : w.rangeAt b 0 cs := fun j v hv => by rw [Nat.zero_add]; exact h.at_ hv
theorem i67l {xs : List Int} (h : xs.length = 64) : (Try.prog.info? 67).map (·.size) = some (ints xs).length := by rw [ints_length, h]; exact i67
theorem i67a {xs : List Int} (h : xs.length = 64) : (Try.prog.info? 67).map (·.size) = some (ints xs).toArray.size := by rw [List.size_toArray, ints_length, h]; exact i67
theorem ints_one (xs : List Int) : (ints xs).toArray.all (·.oneCell') = true := all_oneCell_toArray (fun v hv => by
  obtain ⟨x, _, rfl⟩ := List.mem_map.1 hv
  rfl)
theorem Blk.there {w : World} {b n : Nat} {cs : List Value} {t : TypeId} (h : Blk w b cs t) (hn : n = cs.length) : w.there b 0 n := fun j hj => by
  rw [Nat.zero_add]
  have hg : cs[j]? = some cs[j] := List.getElem?_eq_getElem (by omega)
  exact ⟨by rw [h.at_ hg]; rfl, h.free j⟩
theorem Blk.setFrom {b : Nat} {t : TypeId} : ∀ (vs pre cs : List Value) (w : World), Blk w b (pre ++ cs) t → vs.length = cs.length → Blk (w.setCells b pre.length vs) b (pre ++ vs) t ∧ Kp (fun k => k = b) w (w.setCells b pre.length vs)
  | [], pre, cs, w, h, hl => by
    have : cs = [] := List.length_eq_zero_iff.1 hl.symm
    subst this
    exact ⟨h, Kp.refl _ _⟩
  | v :: vs, pre, [], w, h, hl => by simp at hl
  | v :: vs, pre, c :: cs, w, h, hl => by
    have h1 := h.set pre.length v
    have e : (pre ++ c :: cs).set pre.length v = (pre ++ [v]) ++ cs := by simp
    rw [e] at h1
    have h2 := Blk.setFrom vs (pre ++ [v]) cs _ h1 (by simpa using hl)
    rw [List.length_append, List.length_singleton] at h2
    show Blk ((w.setCell ⟨b, pre.length, none⟩ v).setCells b (pre.length + 1) vs) b (pre ++ v :: vs) t ∧ Kp _ w ((w.setCell ⟨b, pre.length, none⟩ v).setCells b (pre.length + 1) vs)
    refine ⟨by simpa using h2.1, ((Kp.refl (fun k => k = b) w).setCell (p := ⟨b, pre.length, none⟩) (fun _ => rfl) v).step h2.2⟩
/-- A whole block is written. -/
theorem Blk.setAll {w : World} {b : Nat} {cs : List Value} {t : TypeId} (h : Blk w b cs t) (vs : List Value) (hl : vs.length = cs.length) : Blk (w.setCells b 0 vs) b vs t ∧ Kp (fun k => k = b) w (w.setCells b 0 vs) :=
  Blk.setFrom vs [] cs w h hl
def hZ : List Int := List.replicate 64 0
theorem hZ_len : hZ.length = 64 := rfl
theorem z64 : (#[.int .i64 0, .int .i64 0, .int .i64 0, .int .i64 0, .int .i64 0, .int .i64 0, .int .i64 0, .int .i64 0, .int .i64 0, .int .i64 0, .int .i64 0, .int .i64 0, .int .i64 0, .int .i64 0, .int .i64 0, .int .i64 0, .int .i64 0, .int .i64 0, .int .i64 0, .int .i64 0, .int .i64 0, .int .i64 0, .int .i64 0, .int .i64 0, .int .i64 0, .int .i64 0, .int .i64 0, .int .i64 0, .int .i64 0, .int .i64 0, .int .i64 0, .int .i64 0, .int .i64 0, .int .i64 0, .int .i64 0, .int .i64 0, .int .i64 0, .int .i64 0, .int .i64 0, .int .i64 0, .int .i64 0, .int .i64 0, .int .i64 0, .int .i64 0, .int .i64 0, .int .i64 0, .int .i64 0, .int .i64 0, .int .i64 0, .int .i64 0, .int .i64 0, .int .i64 0, .int .i64 0, .int .i64 0, .int .i64 0, .int .i64 0, .int .i64 0, .int .i64 0, .int .i64 0, .int .i64 0, .int .i64 0, .int .i64 0, .int .i64 0, .int .i64 0] : Array Value) = (ints hZ).toArray := rfl
theorem run_index67 (w : World) (xs : List Int) (hl : xs.length = 64) (i : Int) (h0 : 0 ≤ i) (h1 : i < 64) : (Instr.index 67 (.agg (ints xs).toArray) (.int .i64 i)).run Try.prog w = .ok (.int .i64 (rd xs i)) w := by
  have hg : (ints xs)[i.toNat]? = some (.int .i64 (rd xs i)) := ints_get xs (i := i.toNat) (by omega)
  have hu := run_underlying (P := Try.prog) Try.underlying67 w
  simp [Instr.index, hu, asIntOf, part, isAgg, hg, h0, h1]
/-! ### Two histograms compared -/
theorem run_equalIn_i64 {P : Program} (w : World) (d : Nat) (t e : TypeId) (n : Nat) (ht : P.underlying t = some (.array n e)) (he : P.underlying e = some (.int .i64)) (hsz : ∀ w, (sizeOf e).run P w = .ok 1 w)
    (xs ys : List Int) (hx : xs.length = n) (hy : ys.length = n) :
    (Op.equalIn (d + 2) t (.agg (ints xs).toArray) (.agg (ints ys).toArray)).run P w = .ok (xs == ys) w := by
  rw [← all_range_eqI xs ys (hx.trans hy.symm), hx, List.range_eq_range', Op.equalIn]
  simp only [Sem.run_bind, run_underlying ht, Result.andThen_ok, hsz, Std.Legacy.Range.forIn_eq_forIn_range', Std.Legacy.Range.size, Nat.sub_zero, Nat.add_sub_cancel, Nat.div_one]
  have hl : ∀ i ∈ List.range' 0 n 1, i < n := fun i hi => by simpa using (List.mem_range'_1.1 hi).2
  generalize List.range' 0 n 1 = l at hl ⊢
  induction l with
  | nil => simp
  | cons i l ih =>
    have hi : i < n := hl i (by simp)
    have px : (part e (ints xs).toArray (i * 1)).run P w = .ok (.int .i64 (xs.getD i 0)) w := by
      simp [part, isAgg, run_underlying he, ints, List.getD, List.getElem?_eq_getElem (show i < xs.length by omega)]
    have py : (part e (ints ys).toArray (i * 1)).run P w = .ok (.int .i64 (ys.getD i 0)) w := by
      simp [part, isAgg, run_underlying he, ints, List.getD, List.getElem?_eq_getElem (show i < ys.length by omega)]
    have pe : (Op.equalIn (d + 1) e (.int .i64 (xs.getD i 0)) (.int .i64 (ys.getD i 0))).run P w = .ok (xs.getD i 0 == ys.getD i 0) w := by
      rw [run_equalIn_int w d e .i64 .i64 _ _ he]
    simp only [List.forIn_cons, Sem.run_bind, px, py, pe, Result.andThen_ok, List.all_cons]
    cases hb : (xs.getD i 0 == ys.getD i 0)
    · simp
    · simp only [Bool.not_true, Bool.false_eq_true, if_false, Sem.run_pure, Result.andThen_ok, Bool.true_and]
      exact ih fun j hj => hl j (by simp [hj])
theorem hist_eql (w : World) {xs ys : List Int} (hx : xs.length = 64) (hy : ys.length = 64) : (Op.equalIn 10000 67 (.agg (ints xs).toArray) (.agg (ints ys).toArray)).run Try.prog w = .ok (decide (xs = ys)) w := by
  have h := run_equalIn_i64 (P := Try.prog) w 9998 67 3 64 Try.underlying67 Try.underlying3 Try.sizeOf3 xs ys hx hy
  rw [show (xs == ys) = decide (xs = ys) by rw [Bool.eq_iff_iff]; simp] at h
  exact h
/-! ### The total -/
/-- What the total of a histogram is, and whether it is one. -/
def hOK (x : Int) : Bool := decide (0 ≤ x ∧ x ≤ 1048576)
def totF (xs : List Int) : Int := if xs.all hOK = true then xs.sum else 0
def totB (xs : List Int) : Bool := xs.all hOK && decide (xs.sum ≤ 1048576)
theorem ret2v {a b a' b' : Value} (h1 : a = a') (h2 : b = b') : Ending.returned (.tuple #[a, b]) = .returned (.tuple #[a', b']) := by rw [h1, h2]
theorem take_rd (xs : List Int) {i : Nat} (h : i < xs.length) : xs.take (i + 1) = xs.take i ++ [rd xs i] := by
  rw [List.take_succ_eq_append_getElem h]
  simp [rd, List.getD_eq_getElem?_getD, List.getElem?_eq_getElem h]
set_option maxHeartbeats 4000000 in
set_option maxRecDepth 100000 in
theorem total_any (w : World) (xs : List Int) (hl : xs.length = 64) :
    Calls Try.prog 80 #[.agg (ints xs).toArray] w fun e w' => e = .returned (.tuple #[.int .i64 (totF xs), .bool (totB xs)]) ∧ Below w.heap.size w w' := by
  have b1 := below_alloc (Below.refl w.heap.size w) (.cells (ints xs).toArray 67)
  have q1 := (Blk.new w (ints xs) 67).range
  have H1 := Aside0.mk (And.intro b1 q1)
  have HL := Aside0.mk (i67l hl)
  have HLI := Aside0.mk hl
  clear b1 q1 hl
  go_enter Try.func80, Try.ntmps80
  go_wp2_with ((refine wpList_load_mid rfl 67 (.tmp 1) rfl _ _ rfl (ints xs) _ H1.out.2 Try.underlying67 rfl HL.out ?_))
  go_loopw [4, 8] (fun v4 v8 wr => ∃ (i : Nat) (s : Int), v8 = .int .i64 i ∧ i ≤ 64 ∧ v4 = .int .i64 s ∧ (0 ≤ s ∧ s ≤ i * 1048576) ∧ Aside0 (s = (xs.take i).sum ∧ (xs.take i).all hOK = true) ∧ wr = w.alloc (.cells (ints xs).toArray 67)) (fun _ v8 _ => 64 - (intOf v8).toNat)
  case atStart => exact ⟨0, 0, rfl, by omega, rfl, by omega, ⟨rfl, rfl⟩, rfl⟩
  case round =>
    obtain ⟨i, s, rfl, hi, rfl, ⟨hs0, hs1⟩, HX, rfl⟩ := hrel
    by_cases hlt : i < 64
    · have hrun := fun W => run_index67 W xs HLI.out i (by omega) (by omega)
      have htk := take_rd xs (i := i) (by rw [HLI.out]; omega)
      obtain ⟨z, hz⟩ : ∃ z, z = rd xs i := ⟨_, rfl⟩
      rw [← hz] at hrun htk
      have hzm : z ∈ xs := by
        have : z ∈ xs.take (i + 1) := by rw [htk]; simp
        exact List.mem_of_mem_take this
      have HT := Aside0.mk (And.intro htk hzm); clear htk hzm hz
      by_cases h1 : z < 0
      · have hno : Aside0 (xs.all hOK = false) := ⟨by
          rw [List.all_eq_false]
          exact ⟨z, HT.out.2, by unfold hOK; rw [decide_eq_true_eq]; omega⟩⟩
        go_wp2_with fail
        go_ret2
        exact ⟨ret2v (show Value.int .i64 0 = _ by unfold totF; rw [hno.out]; rfl) (show Value.bool false = _ by unfold totB; rw [hno.out]; rfl), H1.out.1⟩
      · by_cases h2 : 1048576 < z
        · have hno : Aside0 (xs.all hOK = false) := ⟨by
            rw [List.all_eq_false]
            exact ⟨z, HT.out.2, by unfold hOK; rw [decide_eq_true_eq]; omega⟩⟩
          go_wp2_with fail
          go_ret2
          exact ⟨ret2v (show Value.int .i64 0 = _ by unfold totF; rw [hno.out]; rfl) (show Value.bool false = _ by unfold totB; rw [hno.out]; rfl), H1.out.1⟩
        · have hok : hOK z = true := decide_eq_true (by omega)
          have HOK := Aside0.mk hok; clear hok
          go_wp2_with fail
          go_roundw
          case rel => exact ⟨i + 1, s + z, by go_num, by omega, by go_num, by omega, ⟨by rw [HT.out.1, List.sum_append, ← HX.out.1]; simp, by rw [HT.out.1, List.all_append, HX.out.2]; simp [HOK.out]⟩, trivial⟩
          case measure => simp [intOf]; omega
    · have hi64 : i = 64 := by omega
      have hx1 := HX.out.1
      have hx2 := HX.out.2
      rw [List.take_of_length_le (by rw [HLI.out]; omega)] at hx1 hx2
      have HXX := Aside0.mk (And.intro hx1 hx2)
      clear hx1 hx2
      have hcl : Aside0 (decide (s ≤ 1048576) = decide (xs.sum ≤ 1048576)) := ⟨by rw [HXX.out.1]⟩
      clear hi64
      go_wp2_with fail
      go_ret2
      exact ⟨ret2v (show Value.int .i64 s = _ by unfold totF; rw [HXX.out.2, if_pos rfl, HXX.out.1]) (show Value.bool (decide (s ≤ 1048576)) = _ by unfold totB; rw [HXX.out.2, ← HXX.out.1, Bool.true_and]), H1.out.1⟩
/-- What Total answers. -/
def totE (xs : List Int) : Int := if totB xs = true then 0 else 2
def totV (xs : List Int) : Int := if totB xs = true then xs.sum else 0
theorem totF_of (xs : List Int) (h : totB xs = true) : totF xs = xs.sum := by
  unfold totB at h
  rw [Bool.and_eq_true] at h
  unfold totF
  rw [if_pos h.1]
theorem sum_nonneg' {xs : List Int} (h : xs.all hOK = true) : 0 ≤ xs.sum := by
  induction xs with
  | nil => exact Int.le_refl _
  | cons x xs ih =>
    rw [List.all_cons, Bool.and_eq_true] at h
    have := ih h.2
    have h1 := h.1
    unfold hOK at h1
    rw [decide_eq_true_eq] at h1
    rw [List.sum_cons]
    omega
theorem tot_bd (xs : List Int) (h : totB xs = true) : 0 ≤ xs.sum ∧ xs.sum ≤ 1048576 := by
  unfold totB at h
  rw [Bool.and_eq_true, decide_eq_true_eq] at h
  exact ⟨sum_nonneg' h.1, h.2⟩
theorem Total_any (w : World) (xs : List Int) (hl : xs.length = 64) :
    Calls Try.prog 38 #[.agg (ints xs).toArray] w fun e w' => e = .returned (.tuple #[.int .i64 (totV xs), .int .i64 (totE xs)]) ∧ Below w.heap.size w w' := by
  have b1 := below_alloc (Below.refl w.heap.size w) (.cells (ints xs).toArray 67)
  have q1 := (Blk.new w (ints xs) 67).range
  have HT := Aside0.mk (fun W => total_any W xs hl)
  have H1 := Aside0.mk (And.intro b1 q1)
  have HL := Aside0.mk (i67l hl)
  clear b1 q1 hl
  obtain ⟨z, hz⟩ : ∃ z, z = totF xs := ⟨_, rfl⟩
  obtain ⟨b, hb⟩ : ∃ b, b = totB xs := ⟨_, rfl⟩
  rw [← hz, ← hb] at HT
  have HZ := Aside0.mk (And.intro hz hb); clear hz hb
  go_enter Try.func38, Try.ntmps38
  cases b with
  | true =>
    go_wp2_with (first | (refine wpList_load_mid rfl 67 (.tmp 1) rfl _ _ rfl (ints xs) _ H1.out.2 Try.underlying67 rfl HL.out ?_) | ((with_reducible refine (HT.out _).mono ?_); rintro e w2 ⟨rfl, hb2⟩; have HB2 := Aside0.mk (below_step H1.out.1 hb2); clear hb2))
    go_ret2
    exact ⟨ret2v (show Value.int .i64 z = _ by unfold totV; rw [← HZ.out.2, if_pos rfl, HZ.out.1, totF_of xs HZ.out.2.symm]) (show Value.int .i64 0 = _ by unfold totE; rw [← HZ.out.2, if_pos rfl]), HB2.out⟩
  | false =>
    go_wp2_with (first | (refine wpList_load_mid rfl 67 (.tmp 1) rfl _ _ rfl (ints xs) _ H1.out.2 Try.underlying67 rfl HL.out ?_) | ((with_reducible refine (HT.out _).mono ?_); rintro e w2 ⟨rfl, hb2⟩; have HB2 := Aside0.mk (below_step H1.out.1 hb2); clear hb2))
    go_ret2
    exact ⟨ret2v (show Value.int .i64 0 = _ by unfold totV; rw [← HZ.out.2, if_neg (by decide)]) (show Value.int .i64 2 = _ by unfold totE; rw [← HZ.out.2, if_neg (by decide)]), HB2.out⟩
/-- The total of what is measured: an error where there is none. -/
def cntE (xs : List Int) : Int := if totB xs = true then (if xs.sum = 0 then 5 else 0) else 2
def cntV (xs : List Int) : Int := if cntE xs = 0 then xs.sum else 0
theorem counted_any (w : World) (xs : List Int) (hl : xs.length = 64) :
    Calls Try.prog 81 #[.agg (ints xs).toArray] w fun e w' => e = .returned (.tuple #[.int .i64 (cntV xs), .int .i64 (cntE xs)]) ∧ Below w.heap.size w w' := by
  have b1 := below_alloc (Below.refl w.heap.size w) (.cells (ints xs).toArray 67)
  have q1 := (Blk.new w (ints xs) 67).range
  have HT := Aside0.mk (fun W => total_any W xs hl)
  have H1 := Aside0.mk (And.intro b1 q1)
  have HL := Aside0.mk (i67l hl)
  clear b1 q1 hl
  obtain ⟨z, hz⟩ : ∃ z, z = totF xs := ⟨_, rfl⟩
  obtain ⟨b, hb⟩ : ∃ b, b = totB xs := ⟨_, rfl⟩
  rw [← hz, ← hb] at HT
  have HZ := Aside0.mk (And.intro hz hb); clear hz hb
  cases b with
  | true =>
    have hzs : Aside0 (z = xs.sum) := ⟨by rw [HZ.out.1, totF_of xs HZ.out.2.symm]⟩
    by_cases h0 : z = 0
    · have HE : Aside0 (cntE xs = 5) := ⟨by unfold cntE; rw [← HZ.out.2, if_pos rfl, ← hzs.out, if_pos h0]⟩
      subst h0
      go_enter Try.func81, Try.ntmps81
      go_wp2_with (first | (refine wpList_load_mid rfl 67 (.tmp 1) rfl _ _ rfl (ints xs) _ H1.out.2 Try.underlying67 rfl HL.out ?_) | ((with_reducible refine (HT.out _).mono ?_); rintro e w2 ⟨rfl, hb2⟩; have HB2 := Aside0.mk (below_step H1.out.1 hb2); clear hb2))
      go_ret2
      exact ⟨ret2v (show Value.int .i64 0 = _ by unfold cntV; rw [HE.out]; rfl) (show Value.int .i64 5 = _ by rw [HE.out]), HB2.out⟩
    · have HE : Aside0 (cntE xs = 0) := ⟨by unfold cntE; rw [← HZ.out.2, if_pos rfl, ← hzs.out, if_neg h0]⟩
      have hzb : (z == 0) = false := by simpa using h0
      go_enter Try.func81, Try.ntmps81
      go_wp2_with (first | (refine wpList_load_mid rfl 67 (.tmp 1) rfl _ _ rfl (ints xs) _ H1.out.2 Try.underlying67 rfl HL.out ?_) | ((with_reducible refine (HT.out _).mono ?_); rintro e w2 ⟨rfl, hb2⟩; have HB2 := Aside0.mk (below_step H1.out.1 hb2); clear hb2))
      go_ret2
      exact ⟨ret2v (show Value.int .i64 z = _ by unfold cntV; rw [HE.out, if_pos rfl, hzs.out]) (show Value.int .i64 0 = _ by rw [HE.out]), HB2.out⟩
  | false =>
    have HE : Aside0 (cntE xs = 2) := ⟨by unfold cntE; rw [← HZ.out.2, if_neg (by decide)]⟩
    go_enter Try.func81, Try.ntmps81
    go_wp2_with (first | (refine wpList_load_mid rfl 67 (.tmp 1) rfl _ _ rfl (ints xs) _ H1.out.2 Try.underlying67 rfl HL.out ?_) | ((with_reducible refine (HT.out _).mono ?_); rintro e w2 ⟨rfl, hb2⟩; have HB2 := Aside0.mk (below_step H1.out.1 hb2); clear hb2))
    go_ret2
    exact ⟨ret2v (show Value.int .i64 0 = _ by unfold cntV; rw [HE.out]; rfl) (show Value.int .i64 2 = _ by rw [HE.out]), HB2.out⟩
end Go.Proofs.Ythkfahkkcjagdaa
end
section
namespace Go.Proofs.Ythkfahkkcjagdaa
open Go.RowKit Go.Proofs.YthkfahkkcjagdaaW.PrintWords Go.Proofs.YthkfahkkcjagdaaW.PrintMore Go.Proofs.YthkfahkkcjagdaaW.PrintLast

theorem run_alloc67 (W : World) : (Instr.alloc 67 true (.tuple #[])).run Try.prog W = .ok (.pointer (some ⟨W.heap.size, 0, none⟩)) (W.alloc (.cells (ints hZ).toArray 67)) := by kernel_rfl
/-- A new variable, and a histogram stored into it. -/
theorem wpl_new67 {ops : Array Oper} {rest : List Oper} {o1 o2 : Oper} {a : Act} {Q : Exit → Act → World → Prop} {W : World} (hg1 : o1.guard = none) (hg2 : o2.guard = none) (d : Tmp) (hd1 : o1.dst = some d) (hd2 : o2.dst = none) (h1 : o1.op = .alloc 67) (x y : Operand) (h2 : o2.op = .store 67 x y)
    (xs : List Int) (hl : xs.length = 64) (hx : (a.put (some d) (.pointer (some ⟨W.heap.size, 0, none⟩))).eval x = .pointer (some ⟨W.heap.size, 0, none⟩)) (hy : (a.put (some d) (.pointer (some ⟨W.heap.size, 0, none⟩))).eval y = .agg (ints xs).toArray)
    (h : ∀ w', Below W.heap.size W w' → Blk w' W.heap.size (ints xs) 67 → wpList Try.prog ops Q rest ((a.put (some d) (.pointer (some ⟨W.heap.size, 0, none⟩))).put none undef) w') :
    wpList Try.prog ops Q (o1 :: o2 :: rest) a W := by
  refine wpList_plain hg1 fun K hK => ?_
  have hrun : (execOp a.eval o1).run Try.prog W = .ok (.value (.pointer (some ⟨W.heap.size, 0, none⟩))) (W.alloc (.cells (ints hZ).toArray 67)) := by
    unfold execOp
    simp only [h1]
    rw [Sem.run_bind, run_alloc67]
    rfl
  unfold Oper.wp
  rw [hrun, Oper.upon]
  refine hK _ _ ?_
  have hb := Blk.new W (ints hZ) 67
  have hs := hb.setAll (ints xs) (by rw [ints_length, ints_length, hl]; rfl)
  rw [hd1]
  refine wpList_store_mid hg2 67 x y h2 _ _ (ints xs).toArray hx hy (hb.there (by rw [List.size_toArray, ints_length, ints_length, hl]; rfl)) (i67a hl) (ints_one xs) ?_
  rw [hd2]
  exact h _ (((Kp.refl (fun k => k = W.heap.size) W).alloc (.cells (ints hZ).toArray 67)).step (hs.2.mono' (fun i _ hi => hi) |>.mono (fun _ h => h)) |>.below_of (fun i hi => Nat.le_of_eq hi.symm)) hs.1
/-! ### The sums -/
def oneF (xs : List Int) : Nat → Int
  | 0 => 0
  | n + 1 => oneF xs n + n * rd xs n
def twoF (xs : List Int) : Nat → Int
  | 0 => 0
  | n + 1 => twoF xs n + n * n * rd xs n
theorem hOK_rd {xs : List Int} (h : xs.all hOK = true) (i : Int) : 0 ≤ rd xs i ∧ rd xs i ≤ 1048576 := by
  unfold rd
  rw [List.getD_eq_getElem?_getD]
  cases e : xs[i.toNat]? with
  | none => simp
  | some x =>
    have := List.all_eq_true.1 h x (List.mem_of_getElem? e)
    unfold hOK at this
    rw [decide_eq_true_eq] at this
    exact this
theorem mul_le' {i : Nat} (hi : i ≤ 63) {z : Int} (hz : 0 ≤ z ∧ z ≤ 1048576) : 0 ≤ (i : Int) * z ∧ (i : Int) * z ≤ 66060288 := by
  have := mul_bd (x := (i : Int)) (y := z) (a := 63) (b := 1048576) (by omega) (by omega) hz.1 hz.2
  omega
theorem mul_le2 {i : Nat} (hi : i ≤ 63) {z : Int} (hz : 0 ≤ z ∧ z ≤ 1048576) : 0 ≤ (i : Int) * i * z ∧ (i : Int) * i * z ≤ 4161798144 := by
  have h1 := mul_bd (x := (i : Int)) (y := (i : Int)) (a := 63) (b := 63) (by omega) (by omega) (by omega) (by omega)
  have := mul_bd (x := (i : Int) * i) (y := z) (a := 3969) (b := 1048576) h1.1 (by omega) hz.1 hz.2
  omega
theorem oneF_bd {xs : List Int} (h : xs.all hOK = true) : ∀ n, n ≤ 64 → 0 ≤ oneF xs n ∧ oneF xs n ≤ n * 66060288
  | 0, _ => by simp [oneF]
  | n + 1, hn => by
    have h1 := oneF_bd h n (by omega)
    have h2 := mul_le' (show n ≤ 63 by omega) (hOK_rd h n)
    show 0 ≤ oneF xs n + n * rd xs n ∧ oneF xs n + n * rd xs n ≤ ((n + 1 : Nat) : Int) * 66060288
    omega
theorem twoF_bd {xs : List Int} (h : xs.all hOK = true) : ∀ n, n ≤ 64 → 0 ≤ twoF xs n ∧ twoF xs n ≤ n * 4161798144
  | 0, _ => by simp [twoF]
  | n + 1, hn => by
    have h1 := twoF_bd h n (by omega)
    have h2 := mul_le2 (show n ≤ 63 by omega) (hOK_rd h n)
    show 0 ≤ twoF xs n + n * n * rd xs n ∧ twoF xs n + n * n * rd xs n ≤ ((n + 1 : Nat) : Int) * 4161798144
    omega
set_option maxHeartbeats 4000000 in
set_option maxRecDepth 100000 in
theorem sums_any (w : World) (xs : List Int) (hl : xs.length = 64) (hok : xs.all hOK = true) :
    Calls Try.prog 82 #[.agg (ints xs).toArray] w fun e w' => e = .returned (.tuple #[.int .i64 (oneF xs 64), .int .i64 (twoF xs 64)]) ∧ Below w.heap.size w w' := by
  have b1 := below_alloc (Below.refl w.heap.size w) (.cells (ints xs).toArray 67)
  have q1 := (Blk.new w (ints xs) 67).range
  have H1 := Aside0.mk (And.intro b1 q1)
  have HL := Aside0.mk (i67l hl)
  have HLI := Aside0.mk (And.intro hl hok)
  clear b1 q1 hl hok
  go_enter Try.func82, Try.ntmps82
  go_wp2_with ((refine wpList_load_mid rfl 67 (.tmp 1) rfl _ _ rfl (ints xs) _ H1.out.2 Try.underlying67 rfl HL.out ?_))
  go_loopw [2, 3, 7] (fun v2 v3 v7 wr => ∃ (i : Nat) (s t : Int), v7 = .int .i64 i ∧ i ≤ 64 ∧ v2 = .int .i64 s ∧ v3 = .int .i64 t ∧ (0 ≤ s ∧ s ≤ i * 66060288) ∧ (0 ≤ t ∧ t ≤ i * 4161798144) ∧ Aside0 (s = oneF xs i ∧ t = twoF xs i) ∧ wr = w.alloc (.cells (ints xs).toArray 67)) (fun _ _ v7 _ => 64 - (intOf v7).toNat)
  case atStart => exact ⟨0, 0, 0, rfl, by omega, rfl, rfl, by omega, by omega, ⟨rfl, rfl⟩, rfl⟩
  case round =>
    obtain ⟨i, s, t, rfl, hi, rfl, rfl, ⟨hs0, hs1⟩, ⟨ht0, ht1⟩, HX, rfl⟩ := hrel
    by_cases hlt : i < 64
    · have hrun := fun W => run_index67 W xs HLI.out.1 i (by omega) (by omega)
      have hz := hOK_rd HLI.out.2 i
      have HN : Aside0 (oneF xs (i + 1) = s + i * rd xs i ∧ twoF xs (i + 1) = t + i * i * rd xs i) := ⟨by rw [HX.out.1]; rfl, by rw [HX.out.2]; rfl⟩
      obtain ⟨z, hzz⟩ : ∃ z, z = rd xs i := ⟨_, rfl⟩
      rw [← hzz] at hrun hz HN
      clear hzz
      have h1 := mul_le' (show i ≤ 63 by omega) hz
      have h2 := mul_le2 (show i ≤ 63 by omega) hz
      have h3 := mul_bd (x := (i : Int)) (y := (i : Int)) (a := 63) (b := 63) (by omega) (by omega) (by omega) (by omega)
      obtain ⟨p, hp⟩ : ∃ p, p = (i : Int) * z := ⟨_, rfl⟩
      obtain ⟨q, hq⟩ : ∃ q, q = (i : Int) * i := ⟨_, rfl⟩
      rw [← hp] at h1 HN
      rw [← hq] at h2 h3 HN
      obtain ⟨r, hr⟩ : ∃ r, r = q * z := ⟨_, rfl⟩
      rw [← hr] at h2 HN
      have hp2 := hp.symm
      have hq2 := hq.symm
      have hr2 := hr.symm
      clear hp hq hr
      obtain ⟨h10, h11⟩ := h1
      obtain ⟨h20, h21⟩ := h2
      obtain ⟨h30, h31⟩ := h3
      go_wp2_with fail
      go_roundw
      case rel => exact ⟨i + 1, s + p, t + r, by go_num, by omega, by go_num, by go_num, by omega, by omega, ⟨HN.out.1.symm, HN.out.2.symm⟩, trivial⟩
      case measure => simp [intOf]; omega
    · have hi64 : i = 64 := by omega
      have HXX : Aside0 (s = oneF xs 64 ∧ t = twoF xs 64) := ⟨by rw [← hi64]; exact HX.out⟩
      clear hi64
      go_wp2_with fail
      go_ret2
      exact ⟨ret2v (show Value.int .i64 s = _ by rw [HXX.out.1]) (show Value.int .i64 t = _ by rw [HXX.out.2]), H1.out.1⟩
/-! ### The mean -/
theorem totB_ok {xs : List Int} (h : totB xs = true) : xs.all hOK = true := by
  unfold totB at h
  rw [Bool.and_eq_true] at h
  exact h.1
def micV (xs : List Int) : Int := if cntE xs = 0 then evenF (oneF xs 64 * 100) xs.sum else 0
theorem cntE_zero {xs : List Int} (h : cntE xs = 0) : totB xs = true ∧ 1 ≤ xs.sum ∧ xs.sum ≤ 1048576 := by
  unfold cntE at h
  split at h
  · rename_i h1
    split at h
    · omega
    · have := tot_bd xs h1
      exact ⟨h1, by omega, this.2⟩
  · omega
set_option maxHeartbeats 4000000 in
set_option maxRecDepth 100000 in
theorem micron_any (w : World) (xs : List Int) (hl : xs.length = 64) :
    Calls Try.prog 39 #[.agg (ints xs).toArray] w fun e w' => e = .returned (.tuple #[.int .i64 (micV xs), .int .i64 (cntE xs)]) ∧ Below w.heap.size w w' := by
  have b1 := below_alloc (Below.refl w.heap.size w) (.cells (ints xs).toArray 67)
  have q1 := Blk.new w (ints xs) 67
  have HT := Aside0.mk (fun W => counted_any W xs hl)
  have H1 := Aside0.mk (And.intro b1 q1)
  have HL := Aside0.mk (i67l hl)
  have hlen := hl
  have HLEN := Aside0.mk hl
  clear b1 q1 hl hlen
  by_cases h0 : cntE xs = 0
  · have hz := cntE_zero h0
    have HSU := Aside0.mk (fun W => sums_any W xs HLEN.out (totB_ok hz.1))
    have ho := oneF_bd (totB_ok hz.1) 64 (by omega)
    have HV : Aside0 (cntV xs = xs.sum ∧ micV xs = evenF (oneF xs 64 * 100) xs.sum) := ⟨by unfold cntV; rw [if_pos h0], by unfold micV; rw [if_pos h0]⟩
    rw [HV.out.1, h0] at HT
    obtain ⟨_, hs1, hs2⟩ := hz
    obtain ⟨ho1, ho2⟩ := ho
    have HE := Aside0.mk (fun W => even_any W (oneF xs 64 * 100) xs.sum (by omega) (by omega))
    obtain ⟨s, hs⟩ : ∃ s, s = xs.sum := ⟨_, rfl⟩
    obtain ⟨o, ho⟩ : ∃ o, o = oneF xs 64 := ⟨_, rfl⟩
    obtain ⟨t, ht⟩ : ∃ t, t = twoF xs 64 := ⟨_, rfl⟩
    obtain ⟨r, hr⟩ : ∃ r, r = evenF (oneF xs 64 * 100) xs.sum := ⟨_, rfl⟩
    rw [← hr] at HE
    rw [← hs] at HT HE hs1 hs2
    rw [← ho, ← ht] at HSU
    rw [← ho] at HE ho1 ho2
    have HR := Aside0.mk (And.intro hr h0)
    clear hr h0 hs ho ht
    go_enter Try.func39, Try.ntmps39
    go_wp2_with (first
      | (refine wpList_load_mid rfl 67 (.tmp 1) rfl _ _ rfl (ints xs) _ (by first | exact H1.out.2.range | exact HB2.out.2.range) Try.underlying67 rfl HL.out ?_)
      | ((with_reducible refine (HT.out _).mono ?_); rintro e w2 ⟨rfl, hb2⟩; have HB2 := Aside0.mk (And.intro (below_step H1.out.1 hb2) (H1.out.2.below hb2)); clear hb2)
      | ((with_reducible refine (HSU.out _).mono ?_); rintro e w3 ⟨rfl, hb3⟩; have HB3 := Aside0.mk (below_step HB2.out.1 hb3); clear hb3)
      | ((with_reducible refine (HE.out _).mono ?_); rintro e w4 ⟨rfl, hb4⟩; have HB4 := Aside0.mk (below_step HB3.out hb4); clear hb4))
    go_ret2
    exact ⟨ret2v (show Value.int .i64 r = _ by rw [HV.out.2, HR.out.1]) (show Value.int .i64 0 = _ by rw [HR.out.2]), HB4.out⟩
  · have HV : Aside0 (cntV xs = 0 ∧ micV xs = 0) := ⟨by unfold cntV; rw [if_neg h0], by unfold micV; rw [if_neg h0]⟩
    rw [HV.out.1] at HT
    obtain ⟨c, hc⟩ : ∃ c, c = cntE xs := ⟨_, rfl⟩
    rw [← hc] at HT h0
    have HCC := Aside0.mk hc; clear hc
    have hcb : (c != 0) = true := by simpa using h0
    go_enter Try.func39, Try.ntmps39
    go_wp2_with (first
      | (refine wpList_load_mid rfl 67 (.tmp 1) rfl _ _ rfl (ints xs) _ H1.out.2.range Try.underlying67 rfl HL.out ?_)
      | ((with_reducible refine (HT.out _).mono ?_); rintro e w2 ⟨rfl, hb2⟩; have HB2 := Aside0.mk (below_step H1.out.1 hb2); clear hb2))
    go_ret2
    exact ⟨ret2v (show Value.int .i64 0 = _ by rw [HV.out.2]) (show Value.int .i64 c = _ by rw [HCC.out]), HB2.out⟩
end Go.Proofs.Ythkfahkkcjagdaa
end
section
namespace Go.Proofs.Ythkfahkkcjagdaa
open Go.RowKit Go.Proofs.YthkfahkkcjagdaaW.PrintWords Go.Proofs.YthkfahkkcjagdaaW.PrintMore Go.Proofs.YthkfahkkcjagdaaW.PrintLast

/-- The first i counts are of both, the others of the first alone. -/
def mp (xs ys : List Int) (i : Nat) : List Int := (List.range 64).map fun (k : Nat) => if k < i then rd xs k + rd ys k else rd xs k
def mrg (xs ys : List Int) : List Int := (List.range 64).map fun (k : Nat) => rd xs k + rd ys k
theorem mp_len (xs ys : List Int) (i : Nat) : (mp xs ys i).length = 64 := by simp [mp]
theorem mrg_len (xs ys : List Int) : (mrg xs ys).length = 64 := by simp [mrg]
theorem as_map {xs : List Int} (h : xs.length = 64) : xs = (List.range 64).map fun (k : Nat) => rd xs k := by
  apply List.ext_getElem?
  intro i
  by_cases hi : i < 64
  · rw [List.getElem?_map, List.getElem?_range hi, List.getElem?_eq_getElem (by omega)]
    simp [rd, List.getD_eq_getElem?_getD, List.getElem?_eq_getElem (show i < xs.length by omega)]
  · rw [List.getElem?_eq_none (by omega), List.getElem?_eq_none (by simp; omega)]
theorem mp_zero {xs : List Int} (ys : List Int) (h : xs.length = 64) : mp xs ys 0 = xs := by
  conv => rhs; rw [as_map h]
  exact List.map_congr_left fun k _ => by rw [if_neg (by omega)]
theorem mp_all (xs ys : List Int) : mp xs ys 64 = mrg xs ys := List.map_congr_left fun k hk => by
  rw [List.mem_range] at hk
  rw [if_pos hk]
theorem mp_get (xs ys : List Int) {i k : Nat} (h : k < 64) : (mp xs ys i)[k]? = some (if k < i then rd xs k + rd ys k else rd xs k) := by
  unfold mp
  rw [List.getElem?_map, List.getElem?_range h]
  rfl
theorem mp_set (xs ys : List Int) {i : Nat} (h : i < 64) : (mp xs ys i).set i (rd xs i + rd ys i) = mp xs ys (i + 1) := by
  apply List.ext_getElem?
  intro k
  rw [List.getElem?_set, mp_len]
  by_cases hk : k < 64
  · rw [mp_get xs ys hk, mp_get xs ys hk]
    by_cases e : i = k
    · subst e; rw [if_pos rfl, if_pos h, if_pos (by omega)]
    · rw [if_neg e]
      by_cases h2 : k < i
      · rw [if_pos h2, if_pos (by omega)]
      · rw [if_neg h2, if_neg (by omega)]
  · rw [if_neg (by omega), List.getElem?_eq_none (by rw [mp_len]; omega), List.getElem?_eq_none (by rw [mp_len]; omega)]
def mrgE (xs ys : List Int) : Int := if totB xs = true ∧ totB ys = true then (if 1048576 < xs.sum + ys.sum then 4 else 0) else 2
def mrgR (xs ys : List Int) : List Int := if mrgE xs ys = 0 then mrg xs ys else hZ
theorem mrgR_len (xs ys : List Int) : (mrgR xs ys).length = 64 := by unfold mrgR; split; exact mrg_len _ _; rfl
theorem ret_ct {w : World} {tmps : Array Value} {b : Nat} {xs : List Int} (hl : xs.length = 64) (hp : tmps.getD 4 undef = .pointer (some ⟨b, 0, none⟩)) (hb : Blk w b (ints xs) 67) : (results Try.f37 tmps).run Try.prog w = .ok (.tuple #[.agg (ints xs).toArray, tmps.getD 5 undef]) w :=
  results_ct rfl tmps w b 67 (ints xs).toArray (0, 0) _ hp hb Try.underlying67 rfl (i67a hl)
set_option maxHeartbeats 4000000 in
set_option maxRecDepth 100000 in
theorem hmerge_any (w : World) (xs ys : List Int) (hx : xs.length = 64) (hy : ys.length = 64) :
    Calls Try.prog 37 #[.agg (ints xs).toArray, .agg (ints ys).toArray] w fun e w' => e = .returned (.tuple #[.agg (ints (mrgR xs ys)).toArray, .int .i64 (mrgE xs ys)]) ∧ Below w.heap.size w w' := by
  have b3 := below_alloc (below_alloc (below_alloc (Below.refl w.heap.size w) (.cells (ints xs).toArray 67)) (.cells (ints ys).toArray 67)) (.cells (ints hZ).toArray 67)
  have q1 := ((Blk.new w (ints xs) 67).alloc (.cells (ints ys).toArray 67)).alloc (.cells (ints hZ).toArray 67)
  have q2 := (Blk.new (w.alloc (.cells (ints xs).toArray 67)) (ints ys) 67).alloc (.cells (ints hZ).toArray 67)
  have q3 := Blk.new ((w.alloc (.cells (ints xs).toArray 67)).alloc (.cells (ints ys).toArray 67)) (ints hZ) 67
  have e1 : (w.alloc (.cells (ints xs).toArray 67)).heap.size = w.heap.size + 1 := by simp
  have e2 : ((w.alloc (.cells (ints xs).toArray 67)).alloc (.cells (ints ys).toArray 67)).heap.size = w.heap.size + 1 + 1 := by simp
  rw [e1] at q2
  rw [e2] at q3
  have HT1 := Aside0.mk (fun W => total_any W xs hx)
  have HT2 := Aside0.mk (fun W => total_any W ys hy)
  have H3 := Aside0.mk (And.intro b3 (And.intro q1 (And.intro q2 q3)))
  have HLX := Aside0.mk (i67l hx)
  have HLY := Aside0.mk (i67l hy)
  have HLE := Aside0.mk (And.intro hx hy)
  clear b3 q1 q2 q3 e1 e2 hx hy
  obtain ⟨n1, hn1⟩ : ∃ z, z = totF xs := ⟨_, rfl⟩
  obtain ⟨t1, ht1⟩ : ∃ b, b = totB xs := ⟨_, rfl⟩
  obtain ⟨n2, hn2⟩ : ∃ z, z = totF ys := ⟨_, rfl⟩
  obtain ⟨t2, ht2⟩ : ∃ b, b = totB ys := ⟨_, rfl⟩
  rw [← hn1, ← ht1] at HT1
  rw [← hn2, ← ht2] at HT2
  have HZ := Aside0.mk (And.intro hn1 (And.intro ht1 (And.intro hn2 ht2))); clear hn1 ht1 hn2 ht2
  go_enter Try.func37, Try.ntmps37
  go_upto_region 1 with fail
  rw [z64]
  generalize (((w.alloc (.cells (ints xs).toArray 67)).alloc (.cells (ints ys).toArray 67)).alloc (.cells (ints hZ).toArray 67)) = w3 at H3 ⊢
  obtain ⟨b2, hb2⟩ : ∃ z, z = w.heap.size := ⟨_, rfl⟩
  rw [← hb2] at H3 ⊢
  have HB2 := Aside0.mk hb2; clear hb2
  go_upto_region 2 with (first
      | (refine wpList_load_mid rfl 67 (.tmp 2) rfl _ _ rfl (ints xs) _ H3.out.2.1.range Try.underlying67 rfl HLX.out ?_)
      | ((with_reducible refine (HT1.out _).mono ?_); rintro e w4 ⟨rfl, hb4⟩; have H4 := Aside0.mk (And.intro (by rw [HB2.out] at H3; exact below_step H3.out.1 hb4) (And.intro (H3.out.2.1.below hb4) (And.intro (H3.out.2.2.1.below hb4) (H3.out.2.2.2.below hb4)))); clear hb4))
  go_upto_region 3 with (first
      | (refine wpList_load_mid rfl 67 (.tmp 3) rfl _ _ rfl (ints ys) _ H4.out.2.2.1.range Try.underlying67 rfl HLY.out ?_)
      | ((with_reducible refine (HT2.out _).mono ?_); rintro e w5 ⟨rfl, hb5⟩; have H5 := Aside0.mk (And.intro (below_step H4.out.1 hb5) (And.intro (H4.out.2.1.below hb5) (And.intro (H4.out.2.2.1.below hb5) (H4.out.2.2.2.below hb5)))); clear hb5))
  clear H3 H4
  have hsz5 := H5.out.2.2.2.lt
  have HS2 := H5.out.2.2.2.setAll (ints hZ) rfl
  have HS := Aside0.mk HS2; clear HS2
  have hbad : t1 = false ∨ t2 = false → Aside0 (mrgE xs ys = 2 ∧ mrgR xs ys = hZ) := fun h => by
    have he : mrgE xs ys = 2 := by
      unfold mrgE
      rw [← HZ.out.2.1, ← HZ.out.2.2.2, if_neg]
      rintro ⟨h1, h2⟩
      rcases h with h | h
      · rw [h] at h1; cases h1
      · rw [h] at h2; cases h2
    exact ⟨he, by unfold mrgR; rw [he, if_neg (by decide)]⟩
  have HBAD := Aside0.mk hbad; clear hbad
  have hkw : ∀ W, Kp (fun k => k = b2 + 1 + 1) w5 W → Below w.heap.size w W := fun W hW => by
    have h1 := (Kp.of_below (S := fun k => k = b2 + 1 + 1) H5.out.1).step hW
    exact h1.below_of (fun i hi => by rw [hi, HB2.out]; omega)
  have HKW := Aside0.mk hkw; clear hkw
  cases t1 with
  | false =>
    have HD := HBAD.out (.inl rfl)
    go_wp2_with (first
      | (refine wpList_store_mid rfl 67 (.tmp 4) (.tmp 29) rfl _ _ (ints hZ).toArray rfl rfl (H5.out.2.2.2.there rfl) (i67a hZ_len) (ints_one hZ) ?_))
    refine bodyPost_ret (ret_ct hZ_len rfl HS.out.1) rfl ⟨ret2v (by rw [HD.out.2]) (show Value.int .i64 2 = _ by rw [HD.out.1]), HKW.out _ HS.out.2⟩
  | true =>
    cases t2 with
    | false =>
      have HD := HBAD.out (.inr rfl)
      go_wp2_with (first
        | (refine wpList_store_mid rfl 67 (.tmp 4) (.tmp 29) rfl _ _ (ints hZ).toArray rfl rfl (H5.out.2.2.2.there rfl) (i67a hZ_len) (ints_one hZ) ?_))
      refine bodyPost_ret (ret_ct hZ_len rfl HS.out.1) rfl ⟨ret2v (by rw [HD.out.2]) (show Value.int .i64 2 = _ by rw [HD.out.1]), HKW.out _ HS.out.2⟩
    | true =>
      have hs1 := totF_of xs HZ.out.2.1.symm
      have hs2 := totF_of ys HZ.out.2.2.2.symm
      have hd1 := tot_bd xs HZ.out.2.1.symm
      have hd2 := tot_bd ys HZ.out.2.2.2.symm
      rw [← HZ.out.1] at hs1
      rw [← HZ.out.2.2.1] at hs2
      rw [← hs1] at hd1
      rw [← hs2] at hd2
      have HS12 := Aside0.mk (And.intro hs1 hs2); clear hs1 hs2
      obtain ⟨hd10, hd11⟩ := hd1
      obtain ⟨hd20, hd21⟩ := hd2
      by_cases hbig : 1048576 < n1 + n2
      · have HD : Aside0 (mrgE xs ys = 4 ∧ mrgR xs ys = hZ) := by
          have he : mrgE xs ys = 4 := by
            unfold mrgE
            rw [if_pos ⟨HZ.out.2.1.symm, HZ.out.2.2.2.symm⟩, ← HS12.out.1, ← HS12.out.2, if_pos hbig]
          exact ⟨he, by unfold mrgR; rw [he, if_neg (by decide)]⟩
        go_wp2_with (first
          | (refine wpList_store_mid rfl 67 (.tmp 4) (.tmp 35) rfl _ _ (ints hZ).toArray rfl rfl (H5.out.2.2.2.there rfl) (i67a hZ_len) (ints_one hZ) ?_))
        refine bodyPost_ret (ret_ct hZ_len rfl HS.out.1) rfl ⟨ret2v (by rw [HD.out.2]) (show Value.int .i64 4 = _ by rw [HD.out.1]), HKW.out _ HS.out.2⟩
      · have HD : Aside0 (mrgE xs ys = 0 ∧ mrgR xs ys = mrg xs ys) := by
          have he : mrgE xs ys = 0 := by
            unfold mrgE
            rw [if_pos ⟨HZ.out.2.1.symm, HZ.out.2.2.2.symm⟩, ← HS12.out.1, ← HS12.out.2, if_neg hbig]
          exact ⟨he, by unfold mrgR; rw [he, if_pos rfl]⟩
        have HOKS := Aside0.mk (And.intro (totB_ok HZ.out.2.1.symm) (totB_ok HZ.out.2.2.2.symm))
        go_wp2_with (first
          | (refine wpList_load_mid rfl 67 (.tmp 3) rfl _ _ rfl (ints ys) _ H5.out.2.2.1.range Try.underlying67 rfl HLY.out ?_))
        go_loopw [37] (fun v37 wr => ∃ i : Nat, v37 = .int .i64 i ∧ i ≤ 64 ∧ Aside0 (Kp (fun k => k = b2) w5 wr ∧ Blk wr b2 (ints (mp xs ys i)) 67)) (fun v37 _ => 64 - (intOf v37).toNat)
        case atStart => exact ⟨0, rfl, by omega, ⟨Kp.refl _ _, by rw [mp_zero ys HLE.out.1]; exact H5.out.2.1⟩⟩
        case round =>
          obtain ⟨i, rfl, hi, HW⟩ := hrel
          by_cases hlt : i < 64
          · have hrun := fun W => run_index67 W ys HLE.out.2 i (by omega) (by omega)
            have hzx := hOK_rd HOKS.out.1 i
            have hzy := hOK_rd HOKS.out.2 i
            have hc : wr.cell? ⟨b2, i, none⟩ = some (.int .i64 (rd xs i)) := by
              refine HW.out.2.at_ ?_
              unfold ints
              rw [List.getElem?_map, mp_get xs ys hlt, if_neg (by omega)]
              rfl
            have hset := mp_set xs ys hlt
            obtain ⟨zx, hzxx⟩ : ∃ z, z = rd xs i := ⟨_, rfl⟩
            obtain ⟨zy, hzyy⟩ : ∃ z, z = rd ys i := ⟨_, rfl⟩
            rw [← hzyy] at hrun hzy hset
            rw [← hzxx] at hzx hset hc
            clear hzxx hzyy
            have hfr := HW.out.2.free
            have HN : Aside0 (Kp (fun k => k = b2) w5 (wr.setCell ⟨b2, i, none⟩ (.int .i64 (zx + zy))) ∧ Blk (wr.setCell ⟨b2, i, none⟩ (.int .i64 (zx + zy))) b2 (ints (mp xs ys (i + 1))) 67) := ⟨HW.out.1.setCell (p := ⟨b2, i, none⟩) (fun _ => rfl) _, by
              have := HW.out.2.set i (.int .i64 (zx + zy))
              rw [ints_set, hset] at this
              exact this⟩
            clear hset
            obtain ⟨hzx0, hzx1⟩ := hzx
            obtain ⟨hzy0, hzy1⟩ := hzy
            go_wp2_with fail
            go_roundw
            case rel => exact ⟨i + 1, by go_num, by omega, HN⟩
            case measure => simp [intOf]; omega
          · have hi64 : i = 64 := by omega
            have hblk : Blk wr b2 (ints (mrg xs ys)) 67 := by
              have := HW.out.2
              rwa [hi64, mp_all] at this
            have h4 : Blk wr (b2 + 1 + 1) (ints hZ) 67 := H5.out.2.2.2.kp HW.out.1 (by show ¬ (b2 + 1 + 1 = b2); omega)
            have hset := h4.setAll (ints (mrg xs ys)) (by rw [ints_length, mrg_len]; rfl)
            have HF := Aside0.mk (And.intro hblk (And.intro h4 hset))
            have hkf : Below w.heap.size w (wr.setCells (b2 + 1 + 1) 0 (ints (mrg xs ys))) := by
              have h1 := ((Kp.of_below (S := fun k => k = b2 ∨ k = b2 + 1 + 1) H5.out.1).step (HW.out.1.mono (fun i h => .inl h))).step (hset.2.mono (fun i h => .inr h))
              exact h1.below_of (fun i hi => by rcases hi with hi | hi <;> rw [hi, HB2.out] <;> omega)
            have HKF := Aside0.mk hkf
            clear hi64 hblk h4 hset hkf
            go_wp2_with (first
              | (refine wpList_load_mid rfl 67 (.tmp 2) rfl _ _ rfl (ints (mrg xs ys)) _ HF.out.1.range Try.underlying67 rfl (i67l (mrg_len xs ys)) ?_)
              | (refine wpList_store_mid rfl 67 (.tmp 4) (.tmp 48) rfl _ _ (ints (mrg xs ys)).toArray rfl rfl (HF.out.2.1.there (by rw [List.size_toArray, ints_length, ints_length, mrg_len]; rfl)) (i67a (mrg_len xs ys)) (ints_one _) ?_))
            refine bodyPost_ret (ret_ct (mrg_len xs ys) rfl HF.out.2.2.1) rfl ⟨ret2v (by rw [HD.out.2]) (show Value.int .i64 0 = _ by rw [HD.out.1]), HKF.out⟩
end Go.Proofs.Ythkfahkkcjagdaa
end
section
namespace Go.Proofs.Ythkfahkkcjagdaa
open Go.RowKit Go.Proofs.YthkfahkkcjagdaaW.PrintWords Go.Proofs.YthkfahkkcjagdaaW.PrintMore Go.Proofs.YthkfahkkcjagdaaW.PrintLast
set_option linter.unusedSimpArgs false
set_option linter.unusedVariables false

theorem Blk.int_at {w : World} {b : Nat} {xs : List Int} {t : TypeId} (h : Blk w b (ints xs) t) {i : Nat} (hi : i < xs.length) : w.cell? ⟨b, i, none⟩ = some (.int .i64 (rd xs i)) := by
  refine h.at_ ?_
  rw [ints_get xs hi]
  simp [rd]
set_option maxHeartbeats 4000000 in
set_option maxRecDepth 100000 in
theorem rsum_any (w : World) (xs : List Int) (hl : xs.length = 64) :
    Calls Try.prog 85 #[.agg (ints xs).toArray] w fun e w' => e = .returned (.tuple #[.int .i64 (totF xs), .bool (totB xs)]) ∧ Below w.heap.size w w' := by
  have b1 := below_alloc (Below.refl w.heap.size w) (.cells (ints xs).toArray 67)
  have q1 := Blk.new w (ints xs) 67
  have H1 := Aside0.mk (And.intro b1 q1)
  have HL := Aside0.mk (i67l hl)
  have HLI := Aside0.mk hl
  clear b1 q1 hl
  go_enter Try.func85, Try.ntmps85
  go_wp2_with fail
  go_loopw [4, 5] (fun v4 v5 wr => ∃ (i : Nat) (s : Int), v5 = .int .i64 i ∧ i ≤ 64 ∧ v4 = .int .i64 s ∧ (0 ≤ s ∧ s ≤ i * 1048576) ∧ Aside0 (s = (xs.take i).sum ∧ (xs.take i).all hOK = true) ∧ wr = w.alloc (.cells (ints xs).toArray 67)) (fun _ v5 _ => 64 - (intOf v5).toNat)
  case atStart => exact ⟨0, 0, rfl, by omega, rfl, by omega, ⟨rfl, rfl⟩, rfl⟩
  case round =>
    obtain ⟨i, s, rfl, hi, rfl, ⟨hs0, hs1⟩, HX, rfl⟩ := hrel
    by_cases hlt : i < 64
    · have hlti : (i : Int) < 64 := by omega
      have c := H1.out.2.int_at (i := i) (by rw [HLI.out]; exact hlt)
      have htk := take_rd xs (i := i) (by rw [HLI.out]; omega)
      obtain ⟨z, hz⟩ : ∃ z, z = rd xs i := ⟨_, rfl⟩
      rw [← hz] at c htk
      have hzm : z ∈ xs := by
        have : z ∈ xs.take (i + 1) := by rw [htk]; simp
        exact List.mem_of_mem_take this
      have HT := Aside0.mk (And.intro htk hzm); clear htk hzm hz
      by_cases h1 : z < 0
      · have hno : Aside0 (xs.all hOK = false) := ⟨by
          rw [List.all_eq_false]
          exact ⟨z, HT.out.2, by unfold hOK; rw [decide_eq_true_eq]; omega⟩⟩
        go_wp2_with fail
        go_ret2
        exact ⟨ret2v (show Value.int .i64 0 = _ by unfold totF; rw [hno.out]; rfl) (show Value.bool false = _ by unfold totB; rw [hno.out]; rfl), H1.out.1⟩
      · by_cases h2 : 1048576 < z
        · have hno : Aside0 (xs.all hOK = false) := ⟨by
            rw [List.all_eq_false]
            exact ⟨z, HT.out.2, by unfold hOK; rw [decide_eq_true_eq]; omega⟩⟩
          go_wp2_with fail
          go_ret2
          exact ⟨ret2v (show Value.int .i64 0 = _ by unfold totF; rw [hno.out]; rfl) (show Value.bool false = _ by unfold totB; rw [hno.out]; rfl), H1.out.1⟩
        · have hok : hOK z = true := decide_eq_true (by omega)
          have HOK := Aside0.mk hok; clear hok
          go_wp2_with fail
          go_roundw
          case rel => exact ⟨i + 1, s + z, by go_num, by omega, by go_num, by omega, ⟨by rw [HT.out.1, List.sum_append, ← HX.out.1]; simp, by rw [HT.out.1, List.all_append, HX.out.2]; simp [HOK.out]⟩, trivial⟩
          case measure => simp [intOf]; omega
    · have hlti : ¬ (i : Int) < 64 := by omega
      have hx1 := HX.out.1
      have hx2 := HX.out.2
      rw [List.take_of_length_le (by rw [HLI.out]; omega)] at hx1 hx2
      have HXX := Aside0.mk (And.intro hx1 hx2)
      clear hx1 hx2
      go_wp2_with fail
      go_ret2
      exact ⟨ret2v (show Value.int .i64 s = _ by unfold totF; rw [HXX.out.2, if_pos rfl, HXX.out.1]) (show Value.bool (decide (s ≤ 1048576)) = _ by unfold totB; rw [HXX.out.2, ← HXX.out.1, Bool.true_and]), H1.out.1⟩
theorem rTotal_any (w : World) (xs : List Int) (hl : xs.length = 64) :
    Calls Try.prog 43 #[.agg (ints xs).toArray] w fun e w' => e = .returned (.tuple #[.int .i64 (totV xs), .int .i64 (totE xs)]) ∧ Below w.heap.size w w' := by
  have b1 := below_alloc (Below.refl w.heap.size w) (.cells (ints xs).toArray 67)
  have q1 := (Blk.new w (ints xs) 67).range
  have HT := Aside0.mk (fun W => rsum_any W xs hl)
  have H1 := Aside0.mk (And.intro b1 q1)
  have HL := Aside0.mk (i67l hl)
  clear b1 q1 hl
  obtain ⟨z, hz⟩ : ∃ z, z = totF xs := ⟨_, rfl⟩
  obtain ⟨b, hb⟩ : ∃ b, b = totB xs := ⟨_, rfl⟩
  rw [← hz, ← hb] at HT
  have HZ := Aside0.mk (And.intro hz hb); clear hz hb
  go_enter Try.func43, Try.ntmps43
  cases b with
  | true =>
    go_wp2_with (first | (refine wpList_load_mid rfl 67 (.tmp 1) rfl _ _ rfl (ints xs) _ H1.out.2 Try.underlying67 rfl HL.out ?_) | ((with_reducible refine (HT.out _).mono ?_); rintro e w2 ⟨rfl, hb2⟩; have HB2 := Aside0.mk (below_step H1.out.1 hb2); clear hb2))
    go_ret2
    exact ⟨ret2v (show Value.int .i64 z = _ by unfold totV; rw [← HZ.out.2, if_pos rfl, HZ.out.1, totF_of xs HZ.out.2.symm]) (show Value.int .i64 0 = _ by unfold totE; rw [← HZ.out.2, if_pos rfl]), HB2.out⟩
  | false =>
    go_wp2_with (first | (refine wpList_load_mid rfl 67 (.tmp 1) rfl _ _ rfl (ints xs) _ H1.out.2 Try.underlying67 rfl HL.out ?_) | ((with_reducible refine (HT.out _).mono ?_); rintro e w2 ⟨rfl, hb2⟩; have HB2 := Aside0.mk (below_step H1.out.1 hb2); clear hb2))
    go_ret2
    exact ⟨ret2v (show Value.int .i64 0 = _ by unfold totV; rw [← HZ.out.2, if_neg (by decide)]) (show Value.int .i64 2 = _ by unfold totE; rw [← HZ.out.2, if_neg (by decide)]), HB2.out⟩
theorem rfirst_any (w : World) (xs : List Int) (hl : xs.length = 64) :
    Calls Try.prog 86 #[.agg (ints xs).toArray] w fun e w' => e = .returned (.tuple #[.int .i64 (cntV xs), .int .i64 (cntE xs)]) ∧ Below w.heap.size w w' := by
  have b1 := below_alloc (Below.refl w.heap.size w) (.cells (ints xs).toArray 67)
  have q1 := (Blk.new w (ints xs) 67).range
  have HT := Aside0.mk (fun W => rsum_any W xs hl)
  have H1 := Aside0.mk (And.intro b1 q1)
  have HL := Aside0.mk (i67l hl)
  clear b1 q1 hl
  obtain ⟨z, hz⟩ : ∃ z, z = totF xs := ⟨_, rfl⟩
  obtain ⟨b, hb⟩ : ∃ b, b = totB xs := ⟨_, rfl⟩
  rw [← hz, ← hb] at HT
  have HZ := Aside0.mk (And.intro hz hb); clear hz hb
  cases b with
  | true =>
    have hzs : Aside0 (z = xs.sum) := ⟨by rw [HZ.out.1, totF_of xs HZ.out.2.symm]⟩
    by_cases h0 : z = 0
    · have HE : Aside0 (cntE xs = 5) := ⟨by unfold cntE; rw [← HZ.out.2, if_pos rfl, ← hzs.out, if_pos h0]⟩
      subst h0
      go_enter Try.func86, Try.ntmps86
      go_wp2_with (first | (refine wpList_load_mid rfl 67 (.tmp 1) rfl _ _ rfl (ints xs) _ H1.out.2 Try.underlying67 rfl HL.out ?_) | ((with_reducible refine (HT.out _).mono ?_); rintro e w2 ⟨rfl, hb2⟩; have HB2 := Aside0.mk (below_step H1.out.1 hb2); clear hb2))
      go_ret2
      exact ⟨ret2v (show Value.int .i64 0 = _ by unfold cntV; rw [HE.out]; rfl) (show Value.int .i64 5 = _ by rw [HE.out]), HB2.out⟩
    · have HE : Aside0 (cntE xs = 0) := ⟨by unfold cntE; rw [← HZ.out.2, if_pos rfl, ← hzs.out, if_neg h0]⟩
      have hzb : (z == 0) = false := by simpa using h0
      go_enter Try.func86, Try.ntmps86
      go_wp2_with (first | (refine wpList_load_mid rfl 67 (.tmp 1) rfl _ _ rfl (ints xs) _ H1.out.2 Try.underlying67 rfl HL.out ?_) | ((with_reducible refine (HT.out _).mono ?_); rintro e w2 ⟨rfl, hb2⟩; have HB2 := Aside0.mk (below_step H1.out.1 hb2); clear hb2))
      go_ret2
      exact ⟨ret2v (show Value.int .i64 z = _ by unfold cntV; rw [HE.out, if_pos rfl, hzs.out]) (show Value.int .i64 0 = _ by rw [HE.out]), HB2.out⟩
  | false =>
    have HE : Aside0 (cntE xs = 2) := ⟨by unfold cntE; rw [← HZ.out.2, if_neg (by decide)]⟩
    go_enter Try.func86, Try.ntmps86
    go_wp2_with (first | (refine wpList_load_mid rfl 67 (.tmp 1) rfl _ _ rfl (ints xs) _ H1.out.2 Try.underlying67 rfl HL.out ?_) | ((with_reducible refine (HT.out _).mono ?_); rintro e w2 ⟨rfl, hb2⟩; have HB2 := Aside0.mk (below_step H1.out.1 hb2); clear hb2))
    go_ret2
    exact ⟨ret2v (show Value.int .i64 0 = _ by unfold cntV; rw [HE.out]; rfl) (show Value.int .i64 2 = _ by rw [HE.out]), HB2.out⟩

set_option maxHeartbeats 4000000 in
set_option maxRecDepth 100000 in
theorem rmoments_any (w : World) (xs : List Int) (hl : xs.length = 64) (hok : xs.all hOK = true) :
    Calls Try.prog 87 #[.agg (ints xs).toArray] w fun e w' => e = .returned (.tuple #[.int .i64 (oneF xs 64), .int .i64 (twoF xs 64)]) ∧ Below w.heap.size w w' := by
  have b1 := below_alloc (Below.refl w.heap.size w) (.cells (ints xs).toArray 67)
  have q1 := Blk.new w (ints xs) 67
  have H1 := Aside0.mk (And.intro b1 q1)
  have HL := Aside0.mk (i67l hl)
  have HLI := Aside0.mk (And.intro hl hok)
  clear b1 q1 hl hok
  go_enter Try.func87, Try.ntmps87
  go_wp2_with fail
  go_loopw [4, 5, 6] (fun v4 v5 v6 wr => ∃ (i : Nat) (s t : Int), v6 = .int .i64 i ∧ i ≤ 64 ∧ v4 = .int .i64 s ∧ v5 = .int .i64 t ∧ (0 ≤ s ∧ s ≤ i * 66060288) ∧ (0 ≤ t ∧ t ≤ i * 4161798144) ∧ Aside0 (s = oneF xs i ∧ t = twoF xs i) ∧ wr = w.alloc (.cells (ints xs).toArray 67)) (fun _ _ v6 _ => 64 - (intOf v6).toNat)
  case atStart => exact ⟨0, 0, 0, rfl, by omega, rfl, rfl, by omega, by omega, ⟨rfl, rfl⟩, rfl⟩
  case round =>
    obtain ⟨i, s, t, rfl, hi, rfl, rfl, ⟨hs0, hs1⟩, ⟨ht0, ht1⟩, HX, rfl⟩ := hrel
    by_cases hlt : i < 64
    · have hlti : (i : Int) < 64 := by omega
      have c := H1.out.2.int_at (i := i) (by rw [HLI.out.1]; exact hlt)
      have hz := hOK_rd HLI.out.2 i
      have HN : Aside0 (oneF xs (i + 1) = s + i * rd xs i ∧ twoF xs (i + 1) = t + i * i * rd xs i) := ⟨by rw [HX.out.1]; rfl, by rw [HX.out.2]; rfl⟩
      obtain ⟨z, hzz⟩ : ∃ z, z = rd xs i := ⟨_, rfl⟩
      rw [← hzz] at c hz HN
      clear hzz
      have h1 := mul_le' (show i ≤ 63 by omega) hz
      have h2 := mul_le2 (show i ≤ 63 by omega) hz
      have h3 := mul_bd (x := (i : Int)) (y := (i : Int)) (a := 63) (b := 63) (by omega) (by omega) (by omega) (by omega)
      obtain ⟨p, hp⟩ : ∃ p, p = (i : Int) * z := ⟨_, rfl⟩
      obtain ⟨q, hq⟩ : ∃ q, q = (i : Int) * i := ⟨_, rfl⟩
      rw [← hp] at h1 HN
      rw [← hq] at h2 h3 HN
      obtain ⟨r, hr⟩ : ∃ r, r = q * z := ⟨_, rfl⟩
      rw [← hr] at h2 HN
      have hp2 := hp.symm
      have hq2 := hq.symm
      have hr2 := hr.symm
      clear hp hq hr
      obtain ⟨h10, h11⟩ := h1
      obtain ⟨h20, h21⟩ := h2
      obtain ⟨h30, h31⟩ := h3
      go_wp2_with fail
      go_roundw
      case rel => exact ⟨i + 1, s + p, t + r, by go_num, by omega, by go_num, by go_num, by omega, by omega, ⟨HN.out.1.symm, HN.out.2.symm⟩, trivial⟩
      case measure => simp [intOf]; omega
    · have hlti : ¬ (i : Int) < 64 := by omega
      have hi64 : i = 64 := by omega
      have HXX : Aside0 (s = oneF xs 64 ∧ t = twoF xs 64) := ⟨by rw [← hi64]; exact HX.out⟩
      clear hi64
      go_wp2_with fail
      go_ret2
      exact ⟨ret2v (show Value.int .i64 s = _ by rw [HXX.out.1]) (show Value.int .i64 t = _ by rw [HXX.out.2]), H1.out.1⟩
end Go.Proofs.Ythkfahkkcjagdaa
end
section
namespace Go.Proofs.Ythkfahkkcjagdaa
open Go.RowKit Go.Proofs.YthkfahkkcjagdaaW.PrintWords Go.Proofs.YthkfahkkcjagdaaW.PrintMore Go.Proofs.YthkfahkkcjagdaaW.PrintLast
set_option linter.unusedSimpArgs false
set_option linter.unusedVariables false

def nF (xs : List Int) : Nat → Int
  | 0 => 0
  | n + 1 => nF xs n + rd xs n
theorem nF_take {xs : List Int} : ∀ n, n ≤ xs.length → nF xs n = (xs.take n).sum
  | 0, _ => by simp [nF]
  | n + 1, h => by
    rw [take_rd xs (by omega), List.sum_append, nF, nF_take n (by omega)]
    simp
theorem nF_all {xs : List Int} (h : xs.length = 64) : nF xs 64 = xs.sum := by
  rw [nF_take 64 (by omega), List.take_of_length_le (by omega)]
theorem sq_nn (x : Int) : 0 ≤ x * x := by
  rcases Int.le_total 0 x with h | h
  · exact Int.mul_nonneg h h
  · exact Int.mul_nonneg_of_nonpos_of_nonpos h h
theorem quad_nn {xs : List Int} (h : xs.all hOK = true) (a b : Int) : ∀ n, 0 ≤ a * a * twoF xs n - 2 * (a * b) * oneF xs n + b * b * nF xs n
  | 0 => by simp [twoF, oneF, nF]
  | n + 1 => by
    have h1 := quad_nn h a b n
    have h2 := (hOK_rd h n).1
    have h3 : 0 ≤ (a * n - b) * (a * n - b) * rd xs n := Int.mul_nonneg (sq_nn _) h2
    rw [twoF, oneF, nF]
    have e : a * a * (twoF xs n + n * n * rd xs n) - 2 * (a * b) * (oneF xs n + n * rd xs n) + b * b * (nF xs n + rd xs n) = (a * a * twoF xs n - 2 * (a * b) * oneF xs n + b * b * nF xs n) + (a * n - b) * (a * n - b) * rd xs n := by grind
    rw [e]
    omega
theorem two_le {xs : List Int} (h : xs.all hOK = true) : ∀ n, n ≤ 64 → twoF xs n ≤ 3969 * nF xs n
  | 0, _ => by simp [twoF, nF]
  | n + 1, hn => by
    have h1 := two_le h n (by omega)
    have h2 := (hOK_rd h n).1
    have h3 : (n : Int) * n ≤ 3969 := Int.le_trans (Int.mul_le_mul (a := (n : Int)) (b := n) (c := 63) (d := 63) (by omega) (by omega) (by omega) (by omega)) (by decide)
    have h4 : (n : Int) * n * rd xs n ≤ 3969 * rd xs n := Int.mul_le_mul_of_nonneg_right h3 h2
    rw [twoF, nF]
    omega
theorem one_le {xs : List Int} (h : xs.all hOK = true) : ∀ n, n ≤ 64 → oneF xs n ≤ 63 * nF xs n
  | 0, _ => by simp [oneF, nF]
  | n + 1, hn => by
    have h1 := one_le h n (by omega)
    have h2 := (hOK_rd h n).1
    have h4 : (n : Int) * rd xs n ≤ 63 * rd xs n := Int.mul_le_mul_of_nonneg_right (by omega) h2
    rw [oneF, nF]
    omega
/-- The sums of a histogram that counts. -/
theorem moments_bd {xs : List Int} (hl : xs.length = 64) (h : cntE xs = 0) : (1 ≤ xs.sum ∧ xs.sum ≤ 1048576) ∧ (0 ≤ oneF xs 64 ∧ oneF xs 64 ≤ 63 * xs.sum) ∧ (0 ≤ twoF xs 64 ∧ twoF xs 64 ≤ 3969 * xs.sum) ∧ oneF xs 64 * oneF xs 64 ≤ xs.sum * twoF xs 64 ∧ xs.sum * twoF xs 64 ≤ 3969 * (xs.sum * xs.sum) ∧ xs.sum * xs.sum ≤ 1099511627776 ∧ 1 ≤ xs.sum * xs.sum := by
  obtain ⟨ht, h1, h2⟩ := cntE_zero h
  have hok := totB_ok ht
  have h3 := (oneF_bd hok 64 (by omega)).1
  have h4 := (twoF_bd hok 64 (by omega)).1
  have h5 := one_le hok 64 (by omega)
  have h6 := two_le hok 64 (by omega)
  have h7 := quad_nn hok xs.sum (oneF xs 64) 64
  rw [nF_all hl] at h5 h6 h7
  refine ⟨⟨h1, h2⟩, ⟨h3, h5⟩, ⟨h4, h6⟩, ?_, ?_, ?_, ?_⟩
  · refine Int.le_of_mul_le_mul_left (a := xs.sum) ?_ (by omega)
    have e : xs.sum * xs.sum * twoF xs 64 - 2 * (xs.sum * oneF xs 64) * oneF xs 64 + oneF xs 64 * oneF xs 64 * xs.sum = xs.sum * (xs.sum * twoF xs 64) - xs.sum * (oneF xs 64 * oneF xs 64) := by grind
    rw [e] at h7
    omega
  · have := Int.mul_le_mul_of_nonneg_left h6 (show 0 ≤ xs.sum by omega)
    have e : xs.sum * (3969 * xs.sum) = 3969 * (xs.sum * xs.sum) := by grind
    omega
  · exact Int.le_trans (Int.mul_le_mul h2 h2 (by omega) (by omega)) (by decide)
  · exact Int.mul_pos (by omega) (by omega)
/-- What Variance answers. -/
def varV (xs : List Int) : Int := if cntE xs = 0 then evenF ((xs.sum * twoF xs 64 - oneF xs 64 * oneF xs 64) * 100) (xs.sum * xs.sum) else 0
set_option maxHeartbeats 4000000 in
set_option maxRecDepth 100000 in
theorem variance_any (w : World) (xs : List Int) (hl : xs.length = 64) :
    Calls Try.prog 46 #[.agg (ints xs).toArray] w fun e w' => e = .returned (.tuple #[.int .i64 (varV xs), .int .i64 (cntE xs)]) ∧ Below w.heap.size w w' := by
  have b1 := below_alloc (Below.refl w.heap.size w) (.cells (ints xs).toArray 67)
  have q1 := Blk.new w (ints xs) 67
  have HT := Aside0.mk (fun W => counted_any W xs hl)
  have H1 := Aside0.mk (And.intro b1 q1)
  have HL := Aside0.mk (i67l hl)
  have HLEN := Aside0.mk hl
  clear b1 q1 hl
  by_cases h0 : cntE xs = 0
  · have hb := moments_bd HLEN.out h0
    have HSU := Aside0.mk (fun W => sums_any W xs HLEN.out (totB_ok (cntE_zero h0).1))
    have HV : Aside0 (cntV xs = xs.sum ∧ varV xs = evenF ((xs.sum * twoF xs 64 - oneF xs 64 * oneF xs 64) * 100) (xs.sum * xs.sum)) := ⟨by unfold cntV; rw [if_pos h0], by unfold varV; rw [if_pos h0]⟩
    rw [HV.out.1, h0] at HT
    obtain ⟨⟨hs1, hs2⟩, ⟨ho1, ho2⟩, ⟨ht1, ht2⟩, hc1, hc2, hc3, hc4⟩ := hb
    have hc5 := sq_nn (oneF xs 64)
    have HE := Aside0.mk (fun W => even_any W ((xs.sum * twoF xs 64 - oneF xs 64 * oneF xs 64) * 100) (xs.sum * xs.sum) (by omega) (by omega))
    have HR := Aside0.mk (And.intro HV.out.2 h0)
    generalize xs.sum = s at *
    generalize oneF xs 64 = o at *
    generalize twoF xs 64 = t at *
    obtain ⟨oo, hoo⟩ : ∃ z, z = o * o := ⟨_, rfl⟩
    obtain ⟨st, hst⟩ : ∃ z, z = s * t := ⟨_, rfl⟩
    obtain ⟨ss, hss⟩ : ∃ z, z = s * s := ⟨_, rfl⟩
    rw [← hoo, ← hst, ← hss] at HE HR
    rw [← hoo, ← hst] at hc1
    rw [← hoo] at hc5
    rw [← hst, ← hss] at hc2
    rw [← hss] at hc3 hc4
    have m1 := hoo.symm
    have m2 := hst.symm
    have m3 := hss.symm
    clear hoo hst hss
    have k1 : IntKind.i64.wrap oo = oo := IntWalk.i64_in _ (by omega)
    have k2 : IntKind.i64.wrap st = st := IntWalk.i64_in _ (by omega)
    have k3 : IntKind.i64.wrap ss = ss := IntWalk.i64_in _ (by omega)
    have k4 : IntKind.i64.wrap (st - oo) = st - oo := IntWalk.i64_in _ (by omega)
    have k5 : IntKind.u64.wrap (st - oo) = st - oo := IntWalk.u64_in _ (by omega)
    have k6 : IntKind.u64.wrap ((st - oo) * 100) = (st - oo) * 100 := IntWalk.u64_in _ (by omega)
    have k7 : IntKind.u64.wrap ss = ss := IntWalk.u64_in _ (by omega)
    clear h0 HV
    go_enter Try.func46, Try.ntmps46
    go_wp2_with (first
      | (refine wpList_load_mid rfl 67 (.tmp 1) rfl _ _ rfl (ints xs) _ (by first | exact H1.out.2.range | exact HB2.out.2.range) Try.underlying67 rfl HL.out ?_)
      | ((with_reducible refine (HT.out _).mono ?_); rintro e w2 ⟨rfl, hb2⟩; have HB2 := Aside0.mk (And.intro (below_step H1.out.1 hb2) (H1.out.2.below hb2)); clear hb2)
      | ((with_reducible refine (HSU.out _).mono ?_); rintro e w3 ⟨rfl, hb3⟩; have HB3 := Aside0.mk (below_step HB2.out.1 hb3); clear hb3)
      | ((with_reducible refine (HE.out _).mono ?_); rintro e w4 ⟨rfl, hb4⟩; have HB4 := Aside0.mk (below_step HB3.out hb4); clear hb4))
    go_ret2
    exact ⟨ret2v (show Value.int .i64 (evenF ((st - oo) * 100) ss) = _ by rw [HR.out.1]) (show Value.int .i64 0 = _ by rw [HR.out.2]), HB4.out⟩
  · have HV : Aside0 (cntV xs = 0 ∧ varV xs = 0) := ⟨by unfold cntV; rw [if_neg h0], by unfold varV; rw [if_neg h0]⟩
    rw [HV.out.1] at HT
    obtain ⟨c, hc⟩ : ∃ c, c = cntE xs := ⟨_, rfl⟩
    rw [← hc] at HT h0
    have HCC := Aside0.mk hc; clear hc
    have hcb : (c != 0) = true := by simpa using h0
    go_enter Try.func46, Try.ntmps46
    go_wp2_with (first
      | (refine wpList_load_mid rfl 67 (.tmp 1) rfl _ _ rfl (ints xs) _ H1.out.2.range Try.underlying67 rfl HL.out ?_)
      | ((with_reducible refine (HT.out _).mono ?_); rintro e w2 ⟨rfl, hb2⟩; have HB2 := Aside0.mk (below_step H1.out.1 hb2); clear hb2))
    go_ret2
    exact ⟨ret2v (show Value.int .i64 0 = _ by rw [HV.out.2]) (show Value.int .i64 c = _ by rw [HCC.out]), HB2.out⟩
end Go.Proofs.Ythkfahkkcjagdaa
end
section
namespace Go.Proofs.Ythkfahkkcjagdaa
open Go.RowKit Go.Proofs.YthkfahkkcjagdaaW.PrintWords Go.Proofs.YthkfahkkcjagdaaW.PrintMore Go.Proofs.YthkfahkkcjagdaaW.PrintLast
set_option linter.unusedSimpArgs false
set_option linter.unusedVariables false

theorem ret_ctR {w : World} {tmps : Array Value} {b : Nat} {xs : List Int} (hl : xs.length = 64) (hp : tmps.getD 4 undef = .pointer (some ⟨b, 0, none⟩)) (hb : Blk w b (ints xs) 67) : (results Try.f44 tmps).run Try.prog w = .ok (.tuple #[.agg (ints xs).toArray, tmps.getD 5 undef]) w :=
  results_ct rfl tmps w b 67 (ints xs).toArray (0, 0) _ hp hb Try.underlying67 rfl (i67a hl)
set_option maxHeartbeats 4000000 in
set_option maxRecDepth 100000 in
theorem rmerge_any (w : World) (xs ys : List Int) (hx : xs.length = 64) (hy : ys.length = 64) :
    Calls Try.prog 44 #[.agg (ints xs).toArray, .agg (ints ys).toArray] w fun e w' => e = .returned (.tuple #[.agg (ints (mrgR xs ys)).toArray, .int .i64 (mrgE xs ys)]) ∧ Below w.heap.size w w' := by
  have b3 := below_alloc (below_alloc (below_alloc (Below.refl w.heap.size w) (.cells (ints xs).toArray 67)) (.cells (ints ys).toArray 67)) (.cells (ints hZ).toArray 67)
  have q1 := ((Blk.new w (ints xs) 67).alloc (.cells (ints ys).toArray 67)).alloc (.cells (ints hZ).toArray 67)
  have q2 := (Blk.new (w.alloc (.cells (ints xs).toArray 67)) (ints ys) 67).alloc (.cells (ints hZ).toArray 67)
  have q3 := Blk.new ((w.alloc (.cells (ints xs).toArray 67)).alloc (.cells (ints ys).toArray 67)) (ints hZ) 67
  have e1 : (w.alloc (.cells (ints xs).toArray 67)).heap.size = w.heap.size + 1 := by simp
  have e2 : ((w.alloc (.cells (ints xs).toArray 67)).alloc (.cells (ints ys).toArray 67)).heap.size = w.heap.size + 1 + 1 := by simp
  rw [e1] at q2
  rw [e2] at q3
  have HT1 := Aside0.mk (fun W => rsum_any W xs hx)
  have HT2 := Aside0.mk (fun W => rsum_any W ys hy)
  have H3 := Aside0.mk (And.intro b3 (And.intro q1 (And.intro q2 q3)))
  have HLX := Aside0.mk (i67l hx)
  have HLY := Aside0.mk (i67l hy)
  have HLE := Aside0.mk (And.intro hx hy)
  clear b3 q1 q2 q3 e1 e2 hx hy
  obtain ⟨n1, hn1⟩ : ∃ z, z = totF xs := ⟨_, rfl⟩
  obtain ⟨t1, ht1⟩ : ∃ b, b = totB xs := ⟨_, rfl⟩
  obtain ⟨n2, hn2⟩ : ∃ z, z = totF ys := ⟨_, rfl⟩
  obtain ⟨t2, ht2⟩ : ∃ b, b = totB ys := ⟨_, rfl⟩
  rw [← hn1, ← ht1] at HT1
  rw [← hn2, ← ht2] at HT2
  have HZ := Aside0.mk (And.intro hn1 (And.intro ht1 (And.intro hn2 ht2))); clear hn1 ht1 hn2 ht2
  go_enter Try.func44, Try.ntmps44
  go_upto_region 1 with fail
  rw [z64]
  generalize (((w.alloc (.cells (ints xs).toArray 67)).alloc (.cells (ints ys).toArray 67)).alloc (.cells (ints hZ).toArray 67)) = w3 at H3 ⊢
  obtain ⟨b2, hb2⟩ : ∃ z, z = w.heap.size := ⟨_, rfl⟩
  rw [← hb2] at H3 ⊢
  have HB2 := Aside0.mk hb2; clear hb2
  go_upto_region 2 with (first
      | (refine wpList_load_mid rfl 67 (.tmp 2) rfl _ _ rfl (ints xs) _ H3.out.2.1.range Try.underlying67 rfl HLX.out ?_)
      | ((with_reducible refine (HT1.out _).mono ?_); rintro e w4 ⟨rfl, hb4⟩; have H4 := Aside0.mk (And.intro (by rw [HB2.out] at H3; exact below_step H3.out.1 hb4) (And.intro (H3.out.2.1.below hb4) (And.intro (H3.out.2.2.1.below hb4) (H3.out.2.2.2.below hb4)))); clear hb4))
  go_upto_region 3 with (first
      | (refine wpList_load_mid rfl 67 (.tmp 3) rfl _ _ rfl (ints ys) _ H4.out.2.2.1.range Try.underlying67 rfl HLY.out ?_)
      | ((with_reducible refine (HT2.out _).mono ?_); rintro e w5 ⟨rfl, hb5⟩; have H5 := Aside0.mk (And.intro (below_step H4.out.1 hb5) (And.intro (H4.out.2.1.below hb5) (And.intro (H4.out.2.2.1.below hb5) (H4.out.2.2.2.below hb5)))); clear hb5))
  clear H3 H4
  have hsz5 := H5.out.2.2.2.lt
  have HS2 := H5.out.2.2.2.setAll (ints hZ) rfl
  have HS := Aside0.mk HS2; clear HS2
  have hbad : t1 = false ∨ t2 = false → Aside0 (mrgE xs ys = 2 ∧ mrgR xs ys = hZ) := fun h => by
    have he : mrgE xs ys = 2 := by
      unfold mrgE
      rw [← HZ.out.2.1, ← HZ.out.2.2.2, if_neg]
      rintro ⟨h1, h2⟩
      rcases h with h | h
      · rw [h] at h1; cases h1
      · rw [h] at h2; cases h2
    exact ⟨he, by unfold mrgR; rw [he, if_neg (by decide)]⟩
  have HBAD := Aside0.mk hbad; clear hbad
  have hkw : ∀ W, Kp (fun k => k = b2 + 1 + 1) w5 W → Below w.heap.size w W := fun W hW => by
    have h1 := (Kp.of_below (S := fun k => k = b2 + 1 + 1) H5.out.1).step hW
    exact h1.below_of (fun i hi => by rw [hi, HB2.out]; omega)
  have HKW := Aside0.mk hkw; clear hkw
  cases t1 with
  | false =>
    have HD := HBAD.out (.inl rfl)
    go_wp2_with (first
      | (refine wpList_store_mid rfl 67 (.tmp 4) (.tmp 27) rfl _ _ (ints hZ).toArray rfl rfl (H5.out.2.2.2.there rfl) (i67a hZ_len) (ints_one hZ) ?_))
    refine bodyPost_ret (ret_ctR hZ_len rfl HS.out.1) rfl ⟨ret2v (by rw [HD.out.2]) (show Value.int .i64 2 = _ by rw [HD.out.1]), HKW.out _ HS.out.2⟩
  | true =>
    cases t2 with
    | false =>
      have HD := HBAD.out (.inr rfl)
      go_wp2_with (first
        | (refine wpList_store_mid rfl 67 (.tmp 4) (.tmp 27) rfl _ _ (ints hZ).toArray rfl rfl (H5.out.2.2.2.there rfl) (i67a hZ_len) (ints_one hZ) ?_))
      refine bodyPost_ret (ret_ctR hZ_len rfl HS.out.1) rfl ⟨ret2v (by rw [HD.out.2]) (show Value.int .i64 2 = _ by rw [HD.out.1]), HKW.out _ HS.out.2⟩
    | true =>
      have hs1 := totF_of xs HZ.out.2.1.symm
      have hs2 := totF_of ys HZ.out.2.2.2.symm
      have hd1 := tot_bd xs HZ.out.2.1.symm
      have hd2 := tot_bd ys HZ.out.2.2.2.symm
      rw [← HZ.out.1] at hs1
      rw [← HZ.out.2.2.1] at hs2
      rw [← hs1] at hd1
      rw [← hs2] at hd2
      have HS12 := Aside0.mk (And.intro hs1 hs2); clear hs1 hs2
      obtain ⟨hd10, hd11⟩ := hd1
      obtain ⟨hd20, hd21⟩ := hd2
      by_cases hbig : 1048576 < n1 + n2
      · have HD : Aside0 (mrgE xs ys = 4 ∧ mrgR xs ys = hZ) := by
          have he : mrgE xs ys = 4 := by
            unfold mrgE
            rw [if_pos ⟨HZ.out.2.1.symm, HZ.out.2.2.2.symm⟩, ← HS12.out.1, ← HS12.out.2, if_pos hbig]
          exact ⟨he, by unfold mrgR; rw [he, if_neg (by decide)]⟩
        go_wp2_with (first
          | (refine wpList_store_mid rfl 67 (.tmp 4) (.tmp 32) rfl _ _ (ints hZ).toArray rfl rfl (H5.out.2.2.2.there rfl) (i67a hZ_len) (ints_one hZ) ?_))
        refine bodyPost_ret (ret_ctR hZ_len rfl HS.out.1) rfl ⟨ret2v (by rw [HD.out.2]) (show Value.int .i64 4 = _ by rw [HD.out.1]), HKW.out _ HS.out.2⟩
      · have HD : Aside0 (mrgE xs ys = 0 ∧ mrgR xs ys = mrg xs ys) := by
          have he : mrgE xs ys = 0 := by
            unfold mrgE
            rw [if_pos ⟨HZ.out.2.1.symm, HZ.out.2.2.2.symm⟩, ← HS12.out.1, ← HS12.out.2, if_neg hbig]
          exact ⟨he, by unfold mrgR; rw [he, if_pos rfl]⟩
        have HOKS := Aside0.mk (And.intro (totB_ok HZ.out.2.1.symm) (totB_ok HZ.out.2.2.2.symm))
        go_wp2_with fail
        go_loopw [10] (fun v37 wr => ∃ i : Nat, v37 = .int .i64 i ∧ i ≤ 64 ∧ Aside0 (Kp (fun k => k = b2) w5 wr ∧ Blk wr b2 (ints (mp xs ys i)) 67)) (fun v37 _ => 64 - (intOf v37).toNat)
        case atStart => exact ⟨0, rfl, by omega, ⟨Kp.refl _ _, by rw [mp_zero ys HLE.out.1]; exact H5.out.2.1⟩⟩
        case round =>
          obtain ⟨i, rfl, hi, HW⟩ := hrel
          by_cases hlt : i < 64
          · have hlti : (i : Int) < 64 := by omega
            have hcy : wr.cell? ⟨b2 + 1, i, none⟩ = some (.int .i64 (rd ys i)) := (H5.out.2.2.1.kp HW.out.1 (by show ¬ (b2 + 1 = b2); omega)).int_at (by rw [HLE.out.2]; exact hlt)
            have hzx := hOK_rd HOKS.out.1 i
            have hzy := hOK_rd HOKS.out.2 i
            have hc : wr.cell? ⟨b2, i, none⟩ = some (.int .i64 (rd xs i)) := by
              refine HW.out.2.at_ ?_
              unfold ints
              rw [List.getElem?_map, mp_get xs ys hlt, if_neg (by omega)]
              rfl
            have hset := mp_set xs ys hlt
            obtain ⟨zx, hzxx⟩ : ∃ z, z = rd xs i := ⟨_, rfl⟩
            obtain ⟨zy, hzyy⟩ : ∃ z, z = rd ys i := ⟨_, rfl⟩
            rw [← hzyy] at hcy hzy hset
            rw [← hzxx] at hzx hset hc
            clear hzxx hzyy
            have hfr := HW.out.2.free
            have HN : Aside0 (Kp (fun k => k = b2) w5 (wr.setCell ⟨b2, i, none⟩ (.int .i64 (zx + zy))) ∧ Blk (wr.setCell ⟨b2, i, none⟩ (.int .i64 (zx + zy))) b2 (ints (mp xs ys (i + 1))) 67) := ⟨HW.out.1.setCell (p := ⟨b2, i, none⟩) (fun _ => rfl) _, by
              have := HW.out.2.set i (.int .i64 (zx + zy))
              rw [ints_set, hset] at this
              exact this⟩
            clear hset
            obtain ⟨hzx0, hzx1⟩ := hzx
            obtain ⟨hzy0, hzy1⟩ := hzy
            have kz : IntKind.i64.wrap (zx + zy) = zx + zy := IntWalk.i64_in _ (by omega)
            go_upto_region 10 with fail
            refine start_ (n := 9) (S := (fun W => W.cell? ⟨b2, i, none⟩ = some (.int .i64 zx) ∧ W.cell? ⟨b2 + 1, i, none⟩ = some (.int .i64 zy))) (ds := [8]) #[false, false, false, false, false, false, false, false, false] (by kernel_rfl) rfl rfl (⟨hc, hcy⟩) (fun hHeld => ?_)
            refine pure_ (i := 0) (N := some 37) (v := ?_) (a' := ?_) #[true, false, false, false, false, false, false, false, false] rfl rfl (by kernel_rfl) (fun _ _ _ h => h) (Or.inl ⟨by rfl, ?_⟩) ?_ ?_
            rotate_left
            · intro w'
              go_simp
              with_reducible rfl
            rotate_left
            · simp only [Act.put, List.setIfInBounds_toArray, List.set_cons_zero, List.set_cons_succ, i64_w, i32_w]
              rfl
            refine pure_ (i := 1) (N := some 38) (v := ?_) (a' := ?_) #[true, true, false, false, false, false, false, false, false] rfl rfl (by kernel_rfl) (fun _ _ _ h => h) (Or.inl ⟨by rfl, ?_⟩) ?_ ?_
            rotate_left
            · intro w'
              go_simp
              with_reducible rfl
            rotate_left
            · simp only [Act.put, List.setIfInBounds_toArray, List.set_cons_zero, List.set_cons_succ, i64_w, i32_w]
              rfl
            refine take_ (i := 2) (N := some 39) (v := ?_) (a' := ?_) #[true, true, true, false, false, false, false, false, false] rfl rfl (by kernel_rfl) (fun _ _ _ h => h) (Or.inl ⟨by rfl, ?_⟩) hHeld ?_ ?_
            rotate_left
            · rintro w' ⟨s0, s1⟩
              go_simp
              with_reducible rfl
            rotate_left
            · simp only [Act.put, List.setIfInBounds_toArray, List.set_cons_zero, List.set_cons_succ, i64_w, i32_w]
              rfl
            refine pure_ (i := 3) (N := some 40) (v := ?_) (a' := ?_) #[true, true, true, true, false, false, false, false, false] rfl rfl (by kernel_rfl) (fun _ _ _ h => h) (Or.inl ⟨by rfl, ?_⟩) ?_ ?_
            rotate_left
            · intro w'
              go_simp
              with_reducible rfl
            rotate_left
            · simp only [Act.put, List.setIfInBounds_toArray, List.set_cons_zero, List.set_cons_succ, i64_w, i32_w]
              rfl
            refine pure_ (i := 4) (N := some 41) (v := ?_) (a' := ?_) #[true, true, true, true, true, false, false, false, false] rfl rfl (by kernel_rfl) (fun _ _ _ h => h) (Or.inl ⟨by rfl, ?_⟩) ?_ ?_
            rotate_left
            · intro w'
              go_simp
              with_reducible rfl
            rotate_left
            · simp only [Act.put, List.setIfInBounds_toArray, List.set_cons_zero, List.set_cons_succ, i64_w, i32_w]
              rfl
            refine take_ (i := 5) (N := some 42) (v := ?_) (a' := ?_) #[true, true, true, true, true, true, false, false, false] rfl rfl (by kernel_rfl) (fun _ _ _ h => h) (Or.inl ⟨by rfl, ?_⟩) hHeld ?_ ?_
            rotate_left
            · rintro w' ⟨s0, s1⟩
              go_simp
              with_reducible rfl
            rotate_left
            · simp only [Act.put, List.setIfInBounds_toArray, List.set_cons_zero, List.set_cons_succ, i64_w, i32_w]
              rfl
            refine pure_ (i := 6) (N := some 43) (v := ?_) (a' := ?_) #[true, true, true, true, true, true, true, false, false] rfl rfl (by kernel_rfl) (fun _ _ _ h => h) (Or.inl ⟨by rfl, ?_⟩) ?_ ?_
            rotate_left
            · intro w'
              go_simp
              with_reducible rfl
            rotate_left
            · simp only [Act.put, List.setIfInBounds_toArray, List.set_cons_zero, List.set_cons_succ, i64_w, i32_w]
              rfl
            refine pure_ (i := 7) (N := some 44) (v := ?_) (a' := ?_) #[true, true, true, true, true, true, true, true, false] rfl rfl (by kernel_rfl) (fun _ _ _ h => h) (Or.inl ⟨by rfl, ?_⟩) ?_ ?_
            rotate_left
            · intro w'
              go_simp
              with_reducible rfl
            rotate_left
            · simp only [Act.put, List.setIfInBounds_toArray, List.set_cons_zero, List.set_cons_succ, i64_w, i32_w]
              rfl
            refine last_ (i := 8) (N := none) #[true, true, true, true, true, true, true, true, true] rfl rfl (by kernel_rfl) (by decide) (fun K hK => ?_)
            have cb4 : wr.drew.cell? ⟨b2, i, none⟩ = some (.int .i64 zx) := hc
            have fb4 : wr.drew.frozen? ⟨b2, i, none⟩ = false := hfr i
            refine skip_ (w1 := ?_) (by rfl) rfl ?_ ?_
            rotate_left
            · go_simp
              rfl
            refine hK.out _ _ ?_
            clear hK K
            refine done_ (by kernel_rfl) ?_
            have HN2 : Aside0 (Kp (fun k => k = b2) w5 (wr.setCell ⟨b2, i, none⟩ (.int .i64 (zx + zy))).drew ∧ Blk (wr.setCell ⟨b2, i, none⟩ (.int .i64 (zx + zy))).drew b2 (ints (mp xs ys (i + 1))) 67) := ⟨HN.out.1.drew, HN.out.2.drew⟩
            clear hHeld cb4 fb4
            go_wp2_with fail
            go_roundw
            case rel => exact ⟨i + 1, by go_num, by omega, HN2⟩
            case measure => simp [intOf]; omega
          · have hlti : ¬ (i : Int) < 64 := by omega
            have hi64 : i = 64 := by omega
            have hblk : Blk wr b2 (ints (mrg xs ys)) 67 := by
              have := HW.out.2
              rwa [hi64, mp_all] at this
            have h4 : Blk wr (b2 + 1 + 1) (ints hZ) 67 := H5.out.2.2.2.kp HW.out.1 (by show ¬ (b2 + 1 + 1 = b2); omega)
            have hset := h4.setAll (ints (mrg xs ys)) (by rw [ints_length, mrg_len]; rfl)
            have HF := Aside0.mk (And.intro hblk (And.intro h4 hset))
            have hkf : Below w.heap.size w (wr.setCells (b2 + 1 + 1) 0 (ints (mrg xs ys))) := by
              have h1 := ((Kp.of_below (S := fun k => k = b2 ∨ k = b2 + 1 + 1) H5.out.1).step (HW.out.1.mono (fun i h => .inl h))).step (hset.2.mono (fun i h => .inr h))
              exact h1.below_of (fun i hi => by rcases hi with hi | hi <;> rw [hi, HB2.out] <;> omega)
            have HKF := Aside0.mk hkf
            clear hi64 hblk h4 hset hkf
            go_wp2_with (first
              | (refine wpList_load_mid rfl 67 (.tmp 2) rfl _ _ rfl (ints (mrg xs ys)) _ HF.out.1.range Try.underlying67 rfl (i67l (mrg_len xs ys)) ?_)
              | (refine wpList_store_mid rfl 67 (.tmp 4) (.tmp 45) rfl _ _ (ints (mrg xs ys)).toArray rfl rfl (HF.out.2.1.there (by rw [List.size_toArray, ints_length, ints_length, mrg_len]; rfl)) (i67a (mrg_len xs ys)) (ints_one _) ?_))
            refine bodyPost_ret (ret_ctR (mrg_len xs ys) rfl HF.out.2.2.1) rfl ⟨ret2v (by rw [HD.out.2]) (show Value.int .i64 0 = _ by rw [HD.out.1]), HKF.out⟩
end Go.Proofs.Ythkfahkkcjagdaa
end

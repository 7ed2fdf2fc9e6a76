/- What PressPacked answers. -/
import Derived.Test.YtnoocdobldchoaaPd2
import Derived.Test.YtnoocdobldchoaaAlive
import Derived.BigQuiet
namespace Go.Proofs.Ytnoocdobldchoaa
open Go.RowKit Go.Proofs.YtnoocdobldchoaaW.PrintWords Go.Proofs.YtnoocdobldchoaaW.PrintMore Go.Proofs.YtnoocdobldchoaaW.PrintLast

theorem thingsE_one {ms : List Int} {most each : Int} (h : thingsE ms most each = 0) : thingsE ms most 1 = 0 := by
  obtain ⟨_, _, he, _⟩ := MOK.of_E h
  unfold thingsE at *
  by_cases h1 : 12 < ms.length
  · rw [if_pos h1] at h; omega
  · rw [if_neg h1] at h ⊢
    by_cases h2 : most < 1 ∨ 1073741824 < most ∨ each < 1 ∨ 12 < each
    · rw [if_pos h2] at h; omega
    · rw [if_neg h2] at h
      rw [if_neg (by omega)]
      exact h
theorem kr_sum {most : Int} (hm : 1 ≤ most) : ∀ (ms : List Int), (∀ m ∈ ms, 1 ≤ m ∧ m ≤ most) → ms.sum = (ms.map (kc most)).sum * most + (ms.map (rc most 0)).sum := by
  intro ms
  induction ms with
  | nil => intro _; simp
  | cons m ms ih =>
    intro h
    have a := ih (fun x hx => h x (List.mem_cons_of_mem _ hx))
    have b := h m List.mem_cons_self
    rw [List.map_cons, List.map_cons, List.sum_cons, List.sum_cons, List.sum_cons, a, Int.add_mul]
    unfold kc rc
    by_cases h1 : most < 2 * m
    · rw [if_pos h1, if_neg (by omega), if_pos h1]; omega
    · rw [if_neg h1, if_neg (by omega), if_neg h1]
      rw [if_pos (by omega)]; omega
theorem bf_sum {most K R : Int} (hm : 1 ≤ most) : K * most + R ≤ bf most K R * most := by
  unfold bf
  split
  · rw [Int.add_mul]
    have h1 := Int.emod_add_mul_ediv (R + most - 1) most
    have h2 := Int.emod_lt_of_pos (R + most - 1) (show 0 < most by omega)
    rw [Int.mul_comm] at h1
    omega
  · omega
/-- The bound times the capacity is at least the whole mass. -/
theorem boundF_sum {ms : List Int} {most : Int} (hm : 1 ≤ most) (hle : ∀ m ∈ ms, 1 ≤ m ∧ m ≤ most) : ms.sum ≤ boundF ms most * most := by
  have h1 : bval ms most 0 ≤ boundF ms most := cand_le List.mem_cons_self (by omega)
  rw [bval_kr (by omega)] at h1
  have h2 := kr_sum hm ms hle
  have h3 := bf_sum (K := (ms.map (kc most)).sum) (R := (ms.map (rc most 0)).sum) hm
  have h4 := Int.mul_le_mul_of_nonneg_right h1 (show 0 ≤ most by omega)
  omega
/-- At the first place where they differ the lesser list is less. -/
theorem lex_at : ∀ (l o : List Int) (i : Nat), LexLe l o → (∀ k, k < i → l.getD k 0 = o.getD k 0) → i < l.length → l.getD i 0 ≠ o.getD i 0 → l.getD i 0 < o.getD i 0 := by
  intro l
  induction l with
  | nil => intro o i _ _ h; simp at h
  | cons x l ih =>
    intro o i h he hi hn
    cases o with
    | nil => exact h.elim
    | cons y o =>
      cases i with
      | zero =>
        rcases h with h | ⟨h, _⟩
        · exact h
        · exact absurd h hn
      | succ i =>
        have h0 : x = y := he 0 (by omega)
        rcases h with h | ⟨_, h⟩
        · omega
        · exact ih o i h (fun k hk => he (k + 1) (by omega)) (by simpa using hi) hn
theorem take_sum (ms : List Int) (i : Int) (h0 : 0 ≤ i) (h : i < ms.length) : (ms.take (i + 1).toNat).sum = (ms.take i.toNat).sum + rd ms i := by
  rw [show (i + 1).toNat = i.toNat + 1 by omega, List.take_succ_eq_append_getElem (by omega), List.sum_append]
  simp [rd, List.getD_eq_getElem?_getD, List.getElem?_eq_getElem (show i.toNat < ms.length by omega)]
theorem pair_eq {p : Int × Bool} {a : Int} {b : Bool} (h1 : p.1 = a) (h2 : p.2 = b) : p = (a, b) := by rw [← h1, ← h2]

theorem ppacked_bad (w : World) (A B : Option Addr) (c d n3 : Nat) (ms : List Int) (most each : Int) (h : (Kd.int .i64).C w A ms.length ms) (he : thingsE ms most each ≠ 0) :
    Calls Try.prog 4 #[.slice A ms.length c, .int .i64 most, .int .i64 each, .slice B n3 d] w fun e w' => e = .returned (.bool true) ∧ Below w.heap.size w w' := by
  have hp0 : Calls Try.prog 17 #[.slice A ms.length c, .int .i64 most, .int .i64 each] w fun e w' => ∃ A2, e = .returned (.tuple #[.slice A2 0 0, .int .i64 0, .int .i64 (thingsE ms most each)]) ∧ Below w.heap.size w w' := by
    refine (pack_best w A c ms most each h).mono ?_
    rintro e w' ⟨A2, n, m, l, rfl, h2, _, h4⟩
    obtain ⟨rfl, rfl, rfl⟩ := h4.2 he
    exact ⟨A2, rfl, h2⟩
  obtain ⟨f, hf⟩ : ∃ z, z = thingsE ms most each := ⟨_, rfl⟩
  rw [← hf] at hp0 he
  have g0 : (f == 0) = false := by simpa using he
  have hp := Aside0.mk hp0
  have ha := Aside0.mk alive_any
  clear hp0 he hf h
  go_enter Try.func4, Try.ntmps4
  go_upto_region 2 with ((with_reducible refine hp.out.mono ?_); rintro e1 w1 ⟨A2, rfl, hb1⟩; have H1 := Aside0.mk hb1; clear hb1)
  go_wp2_with ((with_reducible refine (ha.out _).mono ?_); rintro e8 w8 ⟨rfl, hb8⟩; have H8 := Aside0.mk (below_step H1.out hb8); clear hb8)
  go_ret
  exact ⟨rfl, H8.out⟩

set_option maxRecDepth 100000 in
set_option maxHeartbeats 4000000 in
theorem ppacked_ok (w : World) (A B : Option Addr) (c d : Nat) (ms ot : List Int) (most each : Int) (h : (Kd.int .i64).C w A ms.length ms) (k : (Kd.int .i64).C w B ot.length ot) (he : thingsE ms most each = 0) :
    Calls Try.prog 4 #[.slice A ms.length c, .int .i64 most, .int .i64 each, .slice B ot.length d] w fun e w' => e = .returned (.bool true) ∧ Below w.heap.size w w' := by
  obtain ⟨hms, ⟨hm0, hm1⟩, hea, hle⟩ := MOK.of_E he
  have hp0 : Calls Try.prog 17 #[.slice A ms.length c, .int .i64 most, .int .i64 each] w fun e w' => ∃ (A2 : Option Addr) (n : Nat) (l : List Int), e = .returned (.tuple #[.slice A2 ms.length ms.length, .int .i64 n, .int .i64 0]) ∧ Below w.heap.size w w' ∧ (Kd.int .i64).C w' A2 ms.length l ∧ Best ms most each n ms.length l ∧ n ≤ 12 := by
    refine (pack_best w A c ms most each h).mono ?_
    rintro e w' ⟨A2, n2, m, l, rfl, h2, h3, h4⟩
    obtain ⟨n, rfl, hn, rfl, _⟩ := h4.1 he
    rw [he]
    exact ⟨A2, n, l, rfl, h2, h3, h4, by have := hms.1; omega⟩
  have hp := Aside0.mk hp0; clear hp0
  have HC := Aside0.mk (And.intro h k); clear h k
  have HE := Aside0.mk (And.intro he (And.intro hms (And.intro hea hle)))
  have HB := Aside0.mk (boundF_sum (ms := ms) hm0 (fun m hm => ⟨hms.pos m hm, by obtain ⟨i, hi, rfl⟩ := mem_getD hm; exact hle i hi⟩))
  have hl12 := hms.1
  clear he hms hea hle
  go_enter Try.func4, Try.ntmps4
  go_upto_region 2 with ((with_reducible refine hp.out.mono ?_); rintro e1 w1 ⟨A2, n, l, rfl, hb1, hC1, hB1, hn12⟩; have H1 := Aside0.mk (And.intro hb1 (And.intro hC1 hB1)); clear hb1 hC1 hB1)
  clear hp
  have hll : l.length = ms.length := H1.out.2.1.1
  have hq0 := packed_any w1 A A2 c ms.length ms l most each (Kd.C_below HC.out.1 H1.out.1) (by rw [hll]; exact H1.out.2.1) HE.out.2.1 ⟨hm0, hm1⟩ HE.out.2.2.1
  rw [packedF_best H1.out.2.2 HE.out.1, hll] at hq0
  have hq := Aside0.mk hq0
  have HLL := Aside0.mk hll
  clear hq0 hll
  go_upto_region 5 with ((with_reducible refine hq.out.mono ?_); rintro e2 w2 ⟨rfl, hb2⟩; have H2 := Aside0.mk (below_step H1.out.1 hb2); have H2C := Aside0.mk (Kd.C_below H1.out.2.1 hb2); clear hb2)
  clear hq
  have hq0 := pBound_any w2 A c ms most (Kd.C_below HC.out.1 H2.out)
  rw [if_pos (thingsE_one HE.out.1), thingsE_one HE.out.1] at hq0
  obtain ⟨bd, hbd⟩ : ∃ z, z = boundF ms most := ⟨_, rfl⟩
  have hbn : bd ≤ n := by
    obtain ⟨n', e, _, _, h, _⟩ := H1.out.2.2.1 HE.out.1
    rw [hbd]
    omega
  have hb0 : 0 ≤ bd := by rw [hbd]; exact boundF_nonneg
  have hbs := HB.out
  rw [← hbd] at hq0 hbs
  have hbm := mul_bd hb0 (show bd ≤ 12 by omega) (show 0 ≤ most by omega) hm1
  have hq := Aside0.mk hq0
  clear hq0 hbd HB
  have HBS := Aside0.mk hbs; clear hbs
  go_upto_region 6 with ((with_reducible refine hq.out.mono ?_); rintro e3 w3 ⟨rfl, hb3⟩; have H3 := Aside0.mk (below_step H2.out hb3); have H3C := Aside0.mk (Kd.C_below H2C.out hb3); clear hb3)
  clear hq
  go_wp2_with fail
  go_loop [16, 17] (fun v v2 => ∃ s i : Int, v = .int .i64 s ∧ v2 = .int .i64 i ∧ 0 ≤ i ∧ i ≤ ms.length ∧ 0 ≤ s ∧ s ≤ i * 1073741824 ∧ Aside0 (s = (ms.take i.toNat).sum)) (fun _ v => ms.length - (intOf v).toNat)
  case atStart => exact ⟨0, 0, rfl, rfl, by omega, by omega, by omega, by omega, ⟨rfl⟩⟩
  case round =>
    obtain ⟨s, i, rfl, rfl, h0, h1, hs0, hs1, HS⟩ := hrel
    by_cases hlt : i < ms.length
    · obtain ⟨ad, e1, g1⟩ := Kd.at_int (Kd.C_below HC.out.1 H3.out) i h0 hlt
      subst e1
      have hm := HE.out.2.1.at_ i h0 hlt
      obtain ⟨m, hmm⟩ : ∃ z, z = rd ms i := ⟨_, rfl⟩
      rw [← hmm] at hm g1
      have HMM := Aside0.mk hmm; clear hmm
      go_wp2_with fail
      go_round
      case rel => exact ⟨s + m, i + 1, by go_num, by go_num, by omega, by omega, by omega, by omega, ⟨by rw [take_sum ms i h0 hlt, ← HMM.out, HS.out]⟩⟩
      case measure => simp [intOf]; omega
    · have hs : s ≤ bd * most := by
        have h := HS.out
        rw [show i.toNat = ms.length by omega, List.take_length] at h
        rw [h]; exact HBS.out
      clear HS HBS
      obtain ⟨pr, hpr⟩ : ∃ z, z = bd * most := ⟨_, rfl⟩
      have hd1 : decide ((n : Int) < bd) = false := decide_eq_false (by omega)
      have hd2 : decide (bd * most < s) = false := decide_eq_false (by omega)
      clear hpr pr
      have hq := Aside0.mk (packed_any w3 A B c d ms ot most each (Kd.C_below HC.out.1 H3.out) (Kd.C_below HC.out.2 H3.out) HE.out.2.1 ⟨hm0, hm1⟩ HE.out.2.2.1)
      obtain ⟨p1, hp1⟩ : ∃ z, z = (packedF ms ot most each).1 := ⟨_, rfl⟩
      obtain ⟨p2, hp2⟩ : ∃ z, z = (packedF ms ot most each).2 := ⟨_, rfl⟩
      rw [← hp1, ← hp2] at hq
      have HPP := Aside0.mk (pair_eq hp1.symm hp2.symm)
      clear hp1 hp2
      go_upto_region 14 with ((with_reducible refine hq.out.mono ?_); rintro e4 w4 ⟨rfl, hb4⟩; have H4 := Aside0.mk (below_step H3.out hb4); have H4C := Aside0.mk (Kd.C_below H3C.out hb4); clear hb4)
      clear hq hd1 hd2
      have ha := Aside0.mk alive_any
      cases p2 with
      | false =>
        go_wp2_with ((with_reducible refine (ha.out _).mono ?_); rintro e8 w8 ⟨rfl, hb8⟩; have H8 := Aside0.mk (below_step H4.out hb8); clear hb8)
        go_ret
        exact ⟨rfl, H8.out⟩
      | true =>
        by_cases hgt : n < p1
        · have hd : decide ((n : Int) < p1) = true := decide_eq_true hgt
          go_wp2_with ((with_reducible refine (ha.out _).mono ?_); rintro e8 w8 ⟨rfl, hb8⟩; have H8 := Aside0.mk (below_step H4.out hb8); clear hb8)
          go_ret
          exact ⟨rfl, H8.out⟩
        have hd : decide ((n : Int) < p1) = false := decide_eq_false hgt
        obtain ⟨q0, q1, q2⟩ := packedF_free HPP.out
        obtain ⟨n', e, _, _, _, _, hlex, hmin⟩ := H1.out.2.2.1 HE.out.1
        have hnn : n' = n := by omega
        subst hnn
        have hpn : p1 = n' := by
          rcases (show p1.toNat < n' ∨ p1 = n' by omega) with h | h
          · have := hmin p1.toNat h ot
            rw [Int.toNat_of_nonneg q0] at this
            exact absurd q2 this
          · exact h
        subst hpn
        have HLEX := Aside0.mk (And.intro (hlex ot q2) (q1.trans HLL.out.symm))
        clear hlex hmin q2 e q0 hgt
        go_wp2_with fail
        go_loopw [20] (fun v wr => ∃ j : Int, v = .int .i64 j ∧ 0 ≤ j ∧ j ≤ ot.length ∧ Aside0 (∀ k : Nat, k < j.toNat → l.getD k 0 = ot.getD k 0) ∧ Aside0 (Below w4.heap.size w4 wr)) (fun v _ => ot.length - (intOf v).toNat)
        case atStart => exact ⟨0, rfl, by omega, by omega, ⟨fun k hk => by omega⟩, ⟨Below.refl _ _⟩⟩
        case round =>
          obtain ⟨j, rfl, hj0, hj1, HJ, HW⟩ := hrel
          by_cases hjl : j < ot.length
          · have hjm : j < ms.length := by have := HLEX.out.2; have := HLL.out; omega
            obtain ⟨ad, e1, g1⟩ := Kd.at_int (Kd.C_below H4C.out HW.out) j hj0 hjm
            obtain ⟨ad2, e2, g2⟩ := Kd.at_int (Kd.C_below HC.out.2 (below_step H4.out HW.out)) j hj0 hjl
            subst e1
            subst e2
            obtain ⟨x, hx⟩ : ∃ z, z = rd l j := ⟨_, rfl⟩
            obtain ⟨y, hy⟩ : ∃ z, z = rd ot j := ⟨_, rfl⟩
            rw [← hx] at g1
            rw [← hy] at g2
            have HXY := Aside0.mk (And.intro hx hy)
            clear hx hy
            by_cases hxy : x = y
            · have hd5 : (x == y) = true := by simpa using hxy
              go_upto_region 19 with fail
              go_quiet (fail)
              go_wp2_with fail
              go_roundw
              case rel =>
                refine ⟨j + 1, by go_num, by omega, by omega, ⟨fun k hk => ?_⟩, ⟨by first | exact below_drew HW.out | exact pw_below_drewN HW.out _⟩⟩
                rcases (show k < j.toNat ∨ k = j.toNat by omega) with h | h
                · exact HJ.out k h
                · have := HXY.out
                  rw [hxy] at this
                  rw [h]; exact this.1.symm.trans this.2
              case measure => simp [intOf]; omega
            · have hd5 : (x == y) = false := by simpa using hxy
              have hlt5 : x < y := by
                rw [HXY.out.1, HXY.out.2]
                exact lex_at l ot j.toNat HLEX.out.1 HJ.out (by have := HLL.out; omega) (fun e => hxy (by rw [HXY.out.1, HXY.out.2]; exact e))
              have hd6 : decide (x < y) = true := decide_eq_true hlt5
              go_upto_region 19 with fail
              go_cut [120] from 112 to 120 (fun v w1 => v = .bool true ∧ Aside0 (Below wr.heap.size wr w1))
              case first =>
                go_quiet (fail)
                go_wp2_with fail
                go_meet
                case rel => exact ⟨(by show Value.bool (!(x == y)) = _; rw [hd5]; rfl), ⟨by first | exact below_drew (Below.refl _ _) | exact pw_below_drewN (Below.refl _ _) _⟩⟩
              case rest =>
              obtain ⟨rfl, H6⟩ := hcut
              obtain ⟨w6, hw6⟩ : ∃ z, z = wc := ⟨_, rfl⟩
              subst hw6
              clear g1 g2
              have g1 := (Kd.at_int (Kd.C_below H4C.out (below_step HW.out H6.out)) j hj0 hjm)
              have g2 := (Kd.at_int (Kd.C_below HC.out.2 (below_step H4.out (below_step HW.out H6.out))) j hj0 hjl)
              obtain ⟨_, e1, g1⟩ := g1
              obtain ⟨_, e2, g2⟩ := g2
              cases e1
              cases e2
              rw [← HXY.out.1] at g1
              rw [← HXY.out.2] at g2
              go_upto_region 20 with fail
              go_still_tail 15, (by kernel_rfl)
              change wpList _ _ _ _ _ w6.drew
              go_wp2_with ((with_reducible refine (ha.out _).mono ?_); rintro e8 w8 ⟨rfl, hb8⟩; have H8 := Aside0.mk hb8; clear hb8)
              go_ret
              exact ⟨rfl, below_step H4.out (below_step HW.out (below_step H6.out (below_step (below_drew (Below.refl _ _)) H8.out)))⟩
          · go_wp2_with ((with_reducible refine (ha.out _).mono ?_); rintro e8 w8 ⟨rfl, hb8⟩; have H8 := Aside0.mk (below_step (below_step H4.out HW.out) hb8); clear hb8)
            go_ret
            exact ⟨rfl, H8.out⟩

theorem ppacked_any (w : World) (A B : Option Addr) (c d : Nat) (ms ot : List Int) (most each : Int) (h : (Kd.int .i64).C w A ms.length ms) (k : (Kd.int .i64).C w B ot.length ot) :
    Calls Try.prog 4 #[.slice A ms.length c, .int .i64 most, .int .i64 each, .slice B ot.length d] w fun e w' => e = .returned (.bool true) ∧ Below w.heap.size w w' := by
  by_cases he : thingsE ms most each = 0
  · exact ppacked_ok w A B c d ms ot most each h k he
  · exact ppacked_bad w A B c d _ ms most each h he
end Go.Proofs.Ytnoocdobldchoaa

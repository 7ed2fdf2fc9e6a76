/- Texts of this claim and words of the kit's print, trimmed to what it uses and joined. -/
import Derived.Deep.DeepCutAuto
import Derived.Test.YthkfahkkcjagdaaZhK
section
namespace Go.Proofs.Ythkfahkkcjagdaa
open Go.RowKit Go.Proofs.YthkfahkkcjagdaaW.PrintWords Go.Proofs.YthkfahkkcjagdaaW.PrintMore Go.Proofs.YthkfahkkcjagdaaW.PrintLast

set_option maxHeartbeats 2000000 in
theorem div64_any (w : World) (a b : Int) (ha : 0 ≤ a ∧ a ≤ 18446744073709551615) (hb : 1 ≤ b ∧ b ≤ 18446744073709551615) :
    Calls Try.prog 113 #[.int .u64 0, .int .u64 a, .int .u64 b] w fun e w' => e = .returned (.tuple #[.int .u64 (a / b), .int .u64 (a % b)]) ∧ Below w.heap.size w w' := by
  obtain ⟨ha0, ha1⟩ := ha
  obtain ⟨hb0, hb1⟩ := hb
  have h1 : (b == 0) = false := by simp; omega
  have h2 : decide (b ≤ 0) = false := by simp; omega
  have h3 : ¬ b = 0 := by omega
  have h4 : ¬ b ≤ 0 := by omega
  go_enter Try.func113, Try.ntmps113
  go_upto_region 6 with fail
  go_quiet (fail)
  go_wp2_with fail
  go_ret2
  exact ⟨rfl, bdN _ _⟩
/-- a/b rounded half to even. -/
def evenF (a b : Int) : Int := if b - a % b < a % b ∨ (a % b = b - a % b ∧ a / b % 2 = 1) then a / b + 1 else a / b
set_option maxHeartbeats 2000000 in
theorem even_any (w : World) (a b : Int) (ha : 0 ≤ a ∧ a ≤ 9223372036854775806) (hb : 1 ≤ b ∧ b ≤ 9223372036854775807) :
    Calls Try.prog 76 #[.int .u64 0, .int .u64 a, .int .u64 b] w fun e w' => e = .returned (.int .i64 (evenF a b)) ∧ Below w.heap.size w w' := by
  have HD := Aside0.mk (div64_any w a b ⟨ha.1, by omega⟩ ⟨hb.1, by omega⟩)
  have hq0 : 0 ≤ a / b := Int.ediv_nonneg ha.1 (by omega)
  have hq1 : a / b ≤ a := Int.ediv_le_self _ ha.1
  have hr0 : 0 ≤ a % b := Int.emod_nonneg _ (by omega)
  have hr1 : a % b < b := Int.emod_lt_of_pos _ (by omega)
  have HE : Aside0 (evenF a b = if b - a % b < a % b ∨ (a % b = b - a % b ∧ a / b % 2 = 1) then a / b + 1 else a / b) := ⟨rfl⟩
  obtain ⟨ha0, ha1⟩ := ha
  obtain ⟨hb0, hb1⟩ := hb
  obtain ⟨q, hq⟩ : ∃ z, z = a / b := ⟨_, rfl⟩
  obtain ⟨r, hr⟩ : ∃ z, z = a % b := ⟨_, rfl⟩
  rw [← hq, ← hr] at HE
  rw [← hq, ← hr] at HD
  rw [← hq] at hq0 hq1
  rw [← hr] at hr0 hr1
  clear hq hr
  obtain ⟨ev, hev⟩ : ∃ z, z = evenF a b := ⟨_, rfl⟩
  rw [← hev] at HE ⊢
  clear hev
  by_cases c1 : b - r < r
  · have d1 : decide (b - r < r) = true := decide_eq_true c1
    have HV : Aside0 (ev = q + 1) := ⟨by rw [HE.out, if_pos (.inl c1)]⟩
    clear HE
    go_enter Try.func76, Try.ntmps76
    go_wp2_with ((with_reducible refine HD.out.mono ?_); rintro e5 w5 ⟨rfl, hb5⟩; have HB5 := Aside0.mk hb5; clear hb5)
    go_ret
    exact ⟨ret_int HV.out.symm, HB5.out⟩
  · have d1 : decide (b - r < r) = false := decide_eq_false c1
    by_cases c2 : r = b - r
    · have d2 : (r == b - r) = true := by simpa using c2
      by_cases c3 : q % 2 = 1
      · have d3 : (q % 2 == 1) = true := by simpa using c3
        have HV : Aside0 (ev = q + 1) := ⟨by rw [HE.out, if_pos (.inr ⟨c2, c3⟩)]⟩
        have HC2 := Aside0.mk (And.intro c2 c3)
        clear HE c2 c3
        go_enter Try.func76, Try.ntmps76
        go_wp2_with ((with_reducible refine HD.out.mono ?_); rintro e5 w5 ⟨rfl, hb5⟩; have HB5 := Aside0.mk hb5; clear hb5)
        go_ret
        exact ⟨ret_int HV.out.symm, HB5.out⟩
      · have d3 : (q % 2 == 1) = false := by simpa using c3
        have HV : Aside0 (ev = q) := ⟨by rw [HE.out, if_neg (by omega)]⟩
        have HC2 := Aside0.mk (And.intro c2 c3)
        clear HE c2 c3
        go_enter Try.func76, Try.ntmps76
        go_wp2_with ((with_reducible refine HD.out.mono ?_); rintro e5 w5 ⟨rfl, hb5⟩; have HB5 := Aside0.mk hb5; clear hb5)
        go_ret
        exact ⟨ret_int HV.out.symm, HB5.out⟩
    · have d2 : (r == b - r) = false := by simpa using c2
      have HV : Aside0 (ev = q) := ⟨by rw [HE.out, if_neg (by omega)]⟩
      clear HE
      go_enter Try.func76, Try.ntmps76
      go_wp2_with ((with_reducible refine HD.out.mono ?_); rintro e5 w5 ⟨rfl, hb5⟩; have HB5 := Aside0.mk hb5; clear hb5)
      go_ret
      exact ⟨ret_int HV.out.symm, HB5.out⟩

/-! ### The yields -/
def topF (wo ve raw : Int) : Int :=
  if 12070 * wo * (39 * raw + 500 * ve) - 770 * raw * (39 * raw + 500 * ve) + 20300 * raw * raw < 0 then 0
  else evenF (12070 * wo * (39 * raw + 500 * ve) - 770 * raw * (39 * raw + 500 * ve) + 20300 * raw * raw) (raw * (39 * raw + 500 * ve))
def yBad (wo ve raw : Int) : Bool := decide (raw < 1 ∨ 80000 < raw ∨ wo < 0 ∨ ve < 0 ∨ raw < wo ∨ raw - wo < ve)
def yieldF (kind wo ve raw : Int) : Int :=
  if yBad wo ve raw = true then 0 else if kind = 0 then evenF (wo * 10000) raw else if kind = 1 then evenF ((wo + ve) * 1170000) (raw * 98) else if kind = 2 then topF wo ve raw else 0
def yieldE (kind wo ve raw : Int) : Int := if yBad wo ve raw = true then 2 else if kind = 0 ∨ kind = 1 ∨ kind = 2 then 0 else 2
theorem mul_bd' {x y a b : Int} (hx : 0 ≤ x) (hxa : x ≤ a) (hy : 0 ≤ y) (hyb : y ≤ b) : 0 ≤ x * y ∧ x * y ≤ a * b :=
  ⟨Int.mul_nonneg hx hy, Int.mul_le_mul hxa hyb hy (Int.le_trans hx hxa)⟩
set_option maxHeartbeats 4000000 in
theorem top_any (w : World) (wo ve raw : Int) (hr : 1 ≤ raw ∧ raw ≤ 80000) (hw : 0 ≤ wo ∧ wo ≤ raw) (hv : 0 ≤ ve ∧ ve ≤ raw) :
    Calls Try.prog 77 #[.int .i64 wo, .int .i64 ve, .int .i64 raw] w fun e w' => e = .returned (.int .i64 (topF wo ve raw)) ∧ Below w.heap.size w w' := by
  obtain ⟨hr0, hr1⟩ := hr
  obtain ⟨hw0, hw1⟩ := hw
  obtain ⟨hv0, hv1⟩ := hv
  have HTF : Aside0 (topF wo ve raw = if 12070 * wo * (39 * raw + 500 * ve) - 770 * raw * (39 * raw + 500 * ve) + 20300 * raw * raw < 0 then 0 else evenF (12070 * wo * (39 * raw + 500 * ve) - 770 * raw * (39 * raw + 500 * ve) + 20300 * raw * raw) (raw * (39 * raw + 500 * ve))) := ⟨rfl⟩
  have b1 := mul_bd' (x := 12070 * wo) (a := 12070 * 80000) (y := 39 * raw + 500 * ve) (b := 539 * 80000) (by omega) (by omega) (by omega) (by omega)
  have b2 := mul_bd' (x := 770 * raw) (a := 770 * 80000) (y := 39 * raw + 500 * ve) (b := 539 * 80000) (by omega) (by omega) (by omega) (by omega)
  have b3 := mul_bd' (x := 20300 * raw) (a := 20300 * 80000) (y := raw) (b := 80000) (by omega) (by omega) (by omega) (by omega)
  have b4 := mul_bd' (x := raw) (a := 80000) (y := 39 * raw + 500 * ve) (b := 539 * 80000) (by omega) (by omega) (by omega) (by omega)
  have b5 : 1 ≤ raw * (39 * raw + 500 * ve) := by
    have := Int.mul_le_mul (a := 1) (b := 1) (c := raw) (d := 39 * raw + 500 * ve) hr0 (by omega) (by omega) (by omega)
    omega
  obtain ⟨b1a, b1b⟩ := b1
  obtain ⟨b2a, b2b⟩ := b2
  obtain ⟨b3a, b3b⟩ := b3
  obtain ⟨b4a, b4b⟩ := b4
  obtain ⟨tf, htf⟩ : ∃ z, z = topF wo ve raw := ⟨_, rfl⟩
  rw [← htf] at HTF ⊢
  clear htf
  by_cases hneg : 12070 * wo * (39 * raw + 500 * ve) - 770 * raw * (39 * raw + 500 * ve) + 20300 * raw * raw < 0
  · have dn : decide (12070 * wo * (39 * raw + 500 * ve) - 770 * raw * (39 * raw + 500 * ve) + 20300 * raw * raw < 0) = true := decide_eq_true hneg
    have HV : Aside0 (tf = 0) := ⟨by rw [HTF.out, if_pos hneg]⟩
    clear HTF
    go_enter Try.func77, Try.ntmps77
    go_wp2_with fail
    go_ret
    exact ⟨ret_int HV.out.symm, Below.refl _ _⟩
  · have dn : decide (12070 * wo * (39 * raw + 500 * ve) - 770 * raw * (39 * raw + 500 * ve) + 20300 * raw * raw < 0) = false := decide_eq_false hneg
    have HV : Aside0 (tf = evenF (12070 * wo * (39 * raw + 500 * ve) - 770 * raw * (39 * raw + 500 * ve) + 20300 * raw * raw) (raw * (39 * raw + 500 * ve))) := ⟨by rw [HTF.out, if_neg hneg]⟩
    have HE := Aside0.mk (even_any w (12070 * wo * (39 * raw + 500 * ve) - 770 * raw * (39 * raw + 500 * ve) + 20300 * raw * raw) (raw * (39 * raw + 500 * ve)) ⟨by omega, by omega⟩ ⟨b5, by omega⟩)
    clear HTF
    go_enter Try.func77, Try.ntmps77
    go_wp2_with ((refine HE.out.mono ?_); rintro e5 w5 ⟨rfl, hb5⟩; have HB5 := Aside0.mk hb5; clear hb5)
    go_ret
    exact ⟨ret_int HV.out.symm, HB5.out⟩
set_option maxHeartbeats 4000000 in
theorem yield_any (w : World) (kind wo ve raw : Int) (hi : (-9223372036854775808 ≤ wo ∧ wo ≤ 9223372036854775807) ∧ -9223372036854775808 ≤ raw ∧ raw ≤ 9223372036854775807) :
    Calls Try.prog 31 #[.int .i64 kind, .int .i64 wo, .int .i64 ve, .int .i64 raw] w fun e w' => e = .returned (.tuple #[.int .i64 (yieldF kind wo ve raw), .int .i64 (yieldE kind wo ve raw)]) ∧ Below w.heap.size w w' := by
  obtain ⟨hi1, hi2⟩ := hi
  have HY : Aside0 (yieldF kind wo ve raw = if yBad wo ve raw = true then 0 else if kind = 0 then evenF (wo * 10000) raw else if kind = 1 then evenF ((wo + ve) * 1170000) (raw * 98) else if kind = 2 then topF wo ve raw else 0) := ⟨rfl⟩
  have HYE : Aside0 (yieldE kind wo ve raw = if yBad wo ve raw = true then 2 else if kind = 0 ∨ kind = 1 ∨ kind = 2 then 0 else 2) := ⟨rfl⟩
  obtain ⟨yf, hyf⟩ : ∃ z, z = yieldF kind wo ve raw := ⟨_, rfl⟩
  obtain ⟨ye, hye⟩ : ∃ z, z = yieldE kind wo ve raw := ⟨_, rfl⟩
  rw [← hyf] at HY ⊢
  rw [← hye] at HYE ⊢
  clear hyf hye
  go_enter Try.func31, Try.ntmps31
  go_upto_region 1 with fail
  go_cut [35] from 10 to 35 (fun v w1 => v = .bool (yBad wo ve raw) ∧ w = w1)
  case first =>
    by_cases h0 : raw < 1
    · have d0 : decide (raw < 1) = true := decide_eq_true h0
      go_wp2_with fail
      go_meet
      case rel => exact ⟨congrArg Value.bool (by unfold yBad; symm; rw [decide_eq_true_eq]; omega), rfl⟩
    · have d0 : decide (raw < 1) = false := decide_eq_false h0
      by_cases h1 : 80000 < raw
      · have d1 : decide (80000 < raw) = true := decide_eq_true h1
        go_wp2_with fail
        go_meet
        case rel => exact ⟨congrArg Value.bool (by unfold yBad; symm; rw [decide_eq_true_eq]; omega), rfl⟩
      · have d1 : decide (80000 < raw) = false := decide_eq_false h1
        by_cases h2 : wo < 0
        · have d2 : decide (wo < 0) = true := decide_eq_true h2
          go_wp2_with fail
          go_meet
          case rel => exact ⟨congrArg Value.bool (by unfold yBad; symm; rw [decide_eq_true_eq]; omega), rfl⟩
        · have d2 : decide (wo < 0) = false := decide_eq_false h2
          by_cases h3 : ve < 0
          · have d3 : decide (ve < 0) = true := decide_eq_true h3
            go_wp2_with fail
            go_meet
            case rel => exact ⟨congrArg Value.bool (by unfold yBad; symm; rw [decide_eq_true_eq]; omega), rfl⟩
          · have d3 : decide (ve < 0) = false := decide_eq_false h3
            by_cases h4 : raw < wo
            · have d4 : decide (raw < wo) = true := decide_eq_true h4
              go_wp2_with fail
              go_meet
              case rel => exact ⟨congrArg Value.bool (by unfold yBad; symm; rw [decide_eq_true_eq]; omega), rfl⟩
            · have d4 : decide (raw < wo) = false := decide_eq_false h4
              by_cases h5 : raw - wo < ve
              · have d5 : decide (raw - wo < ve) = true := decide_eq_true h5
                go_wp2_with fail
                go_meet
                case rel => exact ⟨congrArg Value.bool (by unfold yBad; symm; rw [decide_eq_true_eq]; omega), rfl⟩
              · have d5 : decide (raw - wo < ve) = false := decide_eq_false h5
                go_wp2_with fail
                go_meet
                case rel => exact ⟨congrArg Value.bool (by unfold yBad; symm; rw [decide_eq_false_iff_not]; omega), rfl⟩
  case rest =>
  obtain ⟨rfl, rfl⟩ := hcut
  cases hy : yBad wo ve raw with
  | true =>
    have HV : Aside0 (yf = 0 ∧ ye = 2) := ⟨by rw [HY.out, HYE.out, if_pos hy, if_pos hy]; exact ⟨rfl, rfl⟩⟩
    clear HY HYE hy
    go_wp2_with fail
    go_ret2
    exact ⟨by rw [HV.out.1, HV.out.2]; rfl, Below.refl _ _⟩
  | false =>
    have hb : ¬ (raw < 1 ∨ 80000 < raw ∨ wo < 0 ∨ ve < 0 ∨ raw < wo ∨ raw - wo < ve) := by
      unfold yBad at hy; exact of_decide_eq_false hy
    have HY0 : Aside0 (yf = if kind = 0 then evenF (wo * 10000) raw else if kind = 1 then evenF ((wo + ve) * 1170000) (raw * 98) else if kind = 2 then topF wo ve raw else 0) := ⟨by rw [HY.out, if_neg (by rw [hy]; simp)]⟩
    have HYE0 : Aside0 (ye = if kind = 0 ∨ kind = 1 ∨ kind = 2 then 0 else 2) := ⟨by rw [HYE.out, if_neg (by rw [hy]; simp)]⟩
    clear HY HYE hy
    have n1 : 1 ≤ raw := by omega
    have n2 : raw ≤ 80000 := by omega
    have n3 : 0 ≤ wo := by omega
    have n4 : wo ≤ raw := by omega
    have n5 : 0 ≤ ve := by omega
    have n6 : wo + ve ≤ raw := by omega
    clear hb
    by_cases k0 : kind = 0
    · have HV : Aside0 (yf = evenF (wo * 10000) raw ∧ ye = 0) := ⟨by rw [HY0.out, HYE0.out, if_pos k0, if_pos (.inl k0)]; exact ⟨rfl, rfl⟩⟩
      have HE := Aside0.mk (even_any w (wo * 10000) raw ⟨by omega, by omega⟩ ⟨by omega, by omega⟩)
      subst k0
      go_wp2_with ((refine HE.out.mono ?_); rintro e5 w5 ⟨rfl, hb5⟩; have HB5 := Aside0.mk hb5; clear hb5)
      go_ret2
      exact ⟨by rw [HV.out.1, HV.out.2]; rfl, HB5.out⟩
    · have k0b : (kind == 0) = false := by simpa using k0
      by_cases k1 : kind = 1
      · have HV : Aside0 (yf = evenF ((wo + ve) * 1170000) (raw * 98) ∧ ye = 0) := ⟨by rw [HY0.out, HYE0.out, if_neg k0, if_pos k1, if_pos (.inr (.inl k1))]; exact ⟨rfl, rfl⟩⟩
        have HE := Aside0.mk (even_any w ((wo + ve) * 1170000) (raw * 98) ⟨by omega, by omega⟩ ⟨by omega, by omega⟩)
        clear k0 k0b
        subst k1
        go_wp2_with ((refine HE.out.mono ?_); rintro e5 w5 ⟨rfl, hb5⟩; have HB5 := Aside0.mk hb5; clear hb5)
        go_ret2
        exact ⟨by rw [HV.out.1, HV.out.2]; rfl, HB5.out⟩
      · have k1b : (kind == 1) = false := by simpa using k1
        by_cases k2 : kind = 2
        · have HV : Aside0 (yf = topF wo ve raw ∧ ye = 0) := ⟨by rw [HY0.out, HYE0.out, if_neg k0, if_neg k1, if_pos k2, if_pos (.inr (.inr k2))]; exact ⟨rfl, rfl⟩⟩
          have HE := Aside0.mk (top_any w wo ve raw ⟨n1, n2⟩ ⟨n3, n4⟩ ⟨n5, by omega⟩)
          clear k0 k0b k1 k1b
          subst k2
          go_wp2_with ((refine HE.out.mono ?_); rintro e5 w5 ⟨rfl, hb5⟩; have HB5 := Aside0.mk hb5; clear hb5)
          go_ret2
          exact ⟨by rw [HV.out.1, HV.out.2]; rfl, HB5.out⟩
        · have k2b : (kind == 2) = false := by simpa using k2
          have HV : Aside0 (yf = 0 ∧ ye = 2) := ⟨by rw [HY0.out, HYE0.out, if_neg k0, if_neg k1, if_neg k2, if_neg (by omega)]; exact ⟨rfl, rfl⟩⟩
          clear k0 k1 k2
          go_wp2_with fail
          go_ret2
          exact ⟨by rw [HV.out.1, HV.out.2]; rfl, Below.refl _ _⟩
end Go.Proofs.Ythkfahkkcjagdaa
end

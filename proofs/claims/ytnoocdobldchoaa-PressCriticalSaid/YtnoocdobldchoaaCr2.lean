/- What PressCritical answers. -/
import Derived.Test.YtnoocdobldchoaaCr1
namespace Go.Proofs.Ytnoocdobldchoaa
open Go.RowKit Go.Proofs.YtnoocdobldchoaaW.PrintWords Go.Proofs.YtnoocdobldchoaaW.PrintMore Go.Proofs.YtnoocdobldchoaaW.PrintLast

set_option maxHeartbeats 4000000 in
theorem critical_far (w : World) (A B : Option Addr) (n c m d : Nat) (h : 64 < n ∨ 64 < m) :
    Calls Try.prog 14 #[.slice A n c, .slice B m d] w fun e w' => e = .returned (.bool true) ∧ Below w.heap.size w w' := by
  have ha := Aside0.mk alive_any
  by_cases h1 : 64 < n
  · have d1 : decide ((64 : Int) < n) = true := decide_eq_true (by omega)
    clear h
    go_enter Try.func14, Try.ntmps14
    go_wp2_with ((with_reducible refine (ha.out _).mono ?_); rintro e8 w8 ⟨rfl, hb8⟩; have H8 := Aside0.mk hb8; clear hb8)
    go_ret
    exact ⟨rfl, H8.out⟩
  · have d1 : decide ((64 : Int) < n) = false := decide_eq_false (by omega)
    have d2 : decide ((64 : Int) < m) = true := decide_eq_true (by omega)
    clear h
    go_enter Try.func14, Try.ntmps14
    go_wp2_with ((with_reducible refine (ha.out _).mono ?_); rintro e8 w8 ⟨rfl, hb8⟩; have H8 := Aside0.mk hb8; clear hb8)
    go_ret
    exact ⟨rfl, H8.out⟩
/-- The greatest sum so far, and the first position with it. -/
def BestAt (ds : List (Int × Int)) (o : List Int) (i : Nat) (best at' : Int) : Prop :=
  (i = 0 ∧ best = -1 ∧ at' = -1) ∨ ∃ k : Nat, at' = k ∧ k < i ∧ critV ds o k = best ∧ (∀ j, j < i → critV ds o j ≤ best) ∧ ∀ j, j < k → critV ds o j < best
theorem BestAt.step {ds : List (Int × Int)} {o : List Int} {i : Nat} {best at' : Int} (h : BestAt ds o i best at') (hv : 0 ≤ critV ds o i) : BestAt ds o (i + 1) (if best < critV ds o i then critV ds o i else best) (if best < critV ds o i then (i : Int) else at') := by
  rcases h with ⟨rfl, rfl, rfl⟩ | ⟨k, rfl, h1, h2, h3, h4⟩
  · rw [if_pos (by omega), if_pos (by omega)]
    refine .inr ⟨0, rfl, by omega, rfl, fun j hj => ?_, fun j hj => absurd hj (by omega)⟩
    have e : j = 0 := by omega
    subst e
    exact Int.le_refl _
  · by_cases hlt : best < critV ds o i
    · rw [if_pos hlt, if_pos hlt]
      refine .inr ⟨i, rfl, by omega, rfl, fun j hj => ?_, fun j hj => ?_⟩
      · rcases (show j < i ∨ j = i by omega) with h | rfl
        · have := h3 j h; omega
        · exact Int.le_refl _
      · have := h3 j hj; omega
    · rw [if_neg hlt, if_neg hlt]
      refine .inr ⟨k, rfl, by omega, h2, fun j hj => ?_, h4⟩
      rcases (show j < i ∨ j = i by omega) with h | rfl
      · exact h3 j h
      · omega
theorem BestAt.last {ds : List (Int × Int)} {o : List Int} {best at' r : Int} (h : BestAt ds o o.length best at') (h0 : dumpsE ds = 0) (hr : ∀ x ∈ o, 0 ≤ x ∧ x < ds.length) (hne : o ≠ []) (hc : IsCrit ds o r) : best = spanF ds o ∧ at' = r := by
  obtain ⟨q, hq1, hq2⟩ := critV_at h0 hr hne
  rcases h with ⟨e, _, _⟩ | ⟨k, rfl, h1, h2, h3, h4⟩
  · exact absurd (List.eq_nil_of_length_eq_zero e) hne
  · have hb : best = spanF ds o := by
      have a := h3 q hq1
      have b := critV_le ds o k h1
      omega
    refine ⟨hb, ?_⟩
    exact IsCrit.one (.inl ⟨k, rfl, h1, by rw [h2, hb], fun j hj => by have := h4 j hj; omega⟩) hc

set_option maxRecDepth 100000 in
set_option maxHeartbeats 8000000 in
theorem critical_near (w : World) (A B : Option Addr) (c d : Nat) (ds : List (Int × Int)) (o : List Int) (h : kP.C w A ds.length ds) (k : (Kd.int .i64).C w B o.length o) (h1 : ds.length ≤ 64) (h2 : o.length ≤ 64) :
    Calls Try.prog 14 #[.slice A ds.length c, .slice B o.length d] w fun e w' => e = .returned (.bool true) ∧ Below w.heap.size w w' := by
  have ha := Aside0.mk alive_any
  have d1 : decide ((64 : Int) < ds.length) = false := decide_eq_false (by omega)
  have d2 : decide ((64 : Int) < o.length) = false := decide_eq_false (by omega)
  have HK := Aside0.mk (And.intro h k)
  have hmk := makespan_any w A B c d ds o h k
  have hcr := fun W (hW : Below w.heap.size w W) => critical_any W A B c d ds o (Kd.C_below h hW) (Kd.C_below k hW)
  obtain ⟨f0, hf0⟩ : ∃ z, z = orderedE ds o := ⟨_, rfl⟩
  obtain ⟨m0, hm0⟩ : ∃ z, z = makeF ds o := ⟨_, rfl⟩
  rw [← hf0, ← hm0] at hmk
  have hcr2 : ∀ W, Below w.heap.size w W → Calls Try.prog 38 #[.slice A ds.length c, .slice B o.length d] W fun e w' => ∃ r : Int, e = .returned (.tuple #[.int .i64 r, .int .i64 f0]) ∧ Below W.heap.size W w' ∧ (f0 = 0 → IsCrit ds o r) ∧ (f0 ≠ 0 → r = 0) :=
    fun W hW => (hcr W hW).mono fun e w' ⟨a, r, b, c1, c2⟩ => ⟨r, by rw [b, hf0], a, fun e => c1 (by rw [← hf0]; exact e), fun e => c2 (by rw [← hf0]; exact e)⟩
  have HMK := Aside0.mk hmk
  have HCR := Aside0.mk hcr2
  have HE := Aside0.mk (And.intro hf0 hm0)
  clear hmk hcr hcr2 hf0 hm0 h k
  go_enter Try.func14, Try.ntmps14
  go_upto_region 5 with (first | ((with_reducible refine HMK.out.mono ?_); rintro e1 w1 ⟨rfl, hb1⟩; have H1 := Aside0.mk hb1; clear hb1) | ((with_reducible refine (HCR.out _ H1.out).mono ?_); rintro e2 w2 ⟨r, rfl, hb2, hr1, hr2⟩; have H2 := Aside0.mk (And.intro (below_step H1.out hb2) (And.intro hr1 hr2)); clear hb2 hr1 hr2))
  clear HMK HCR d1 d2
  by_cases hz : f0 = 0
  rotate_left
  · have hzb : (f0 != 0) = true := by simp [hz]
    have hr0 : r = 0 := H2.out.2.2 hz
    have hm00 : m0 = 0 := by rw [HE.out.2]; unfold makeF; rw [if_neg (fun e => hz (HE.out.1.trans e))]
    subst hr0
    subst hm00
    have hff : (f0 == f0) = true := by simp
    clear hz
    go_wp2_with ((with_reducible refine (ha.out _).mono ?_); rintro e8 w8 ⟨rfl, hb8⟩; have H8 := Aside0.mk (below_step H2.out.1 hb8); clear hb8)
    go_ret
    exact ⟨rfl, H8.out⟩
  obtain ⟨hd, hp⟩ := ordered_ok (HE.out.1.symm.trans hz)
  obtain ⟨hrn, hln⟩ := perm_rng hp
  have hcrit := H2.out.2.1 hz
  subst hz
  have hmS : m0 = spanF ds o := by rw [HE.out.2]; unfold makeF; rw [if_pos HE.out.1.symm]
  have hon := once_any w2 B d o ds.length (Kd.C_below HK.out.2 H2.out.1) (by omega)
  rw [decide_eq_true hp] at hon
  have HON := Aside0.mk hon
  have HF := Aside0.mk (And.intro hd (And.intro hrn (And.intro hln (And.intro hcrit hmS))))
  have HDK := Aside0.mk (DOK.of_E hd)
  have hol1 : (o.length : Int) ≤ ds.length := by omega
  have hol2 : (ds.length : Int) ≤ o.length := by omega
  clear hd hp hrn hln hcrit hmS hon
  by_cases hemp : ds.length = 0
  · have hle : ((ds.length : Int) == 0) = true := by simp [hemp]
    have hon : o = [] := List.eq_nil_of_length_eq_zero (by omega)
    have hr : r = -1 := by
      rcases HF.out.2.2.2.1 with ⟨q, _, hq, _⟩ | ⟨e, _⟩
      · omega
      · exact e
    have hm00 : m0 = 0 := by rw [HF.out.2.2.2.2, hon]; rfl
    subst hr
    subst hm00
    clear hemp hon
    go_wp2_with (first | ((with_reducible refine HON.out.mono ?_); rintro e3 w3 ⟨rfl, hb3⟩; have H3 := Aside0.mk (below_step H2.out.1 hb3); clear hb3) | ((with_reducible refine (ha.out _).mono ?_); rintro e8 w8 ⟨rfl, hb8⟩; have H8 := Aside0.mk (below_step H3.out hb8); clear hb8))
    go_ret
    exact ⟨rfl, H8.out⟩
  have hle : ((ds.length : Int) == 0) = false := beq_eq_false_iff_ne.2 (by omega)
  have hne : o ≠ [] := fun e => hemp (by have h := congrArg List.length e; rw [List.length_nil] at h; omega)
  have HNE := Aside0.mk hne
  clear hemp hne
  go_upto_region 11 with ((with_reducible refine HON.out.mono ?_); rintro e3 w3 ⟨rfl, hb3⟩; have H3 := Aside0.mk (below_step H2.out.1 hb3); clear hb3)
  clear HON
  have HA := Aside0.mk (fun (i : Int) (h0 : 0 ≤ i) (h : i < o.length) => Kd.at_int (Kd.C_below HK.out.2 H3.out) i h0 h)
  have HD := Aside0.mk (fun (x : Int) (h0 : 0 ≤ x) (h : x < ds.length) => at_P (Kd.C_below HK.out.1 H3.out) x h0 h)
  go_loop [9, 10, 11] (fun v9 v10 v11 => ∃ (best at' : Int) (i : Nat), v9 = .int .i64 best ∧ v10 = .int .i64 at' ∧ v11 = .int .i64 i ∧ i ≤ o.length ∧ Aside0 (BestAt ds o i best at')) (fun _ _ v => o.length - (intOf v).toNat)
  case atStart => exact ⟨-1, -1, 0, rfl, rfl, rfl, by omega, ⟨.inl ⟨rfl, rfl, rfl⟩⟩⟩
  case round =>
    obtain ⟨best, at', i, rfl, rfl, rfl, hi, HBA⟩ := hrel
    by_cases hlt : i < o.length
    · have hlti : (i : Int) < o.length := by omega
      go_wp2_with fail
      go_loop [12, 13] (fun v12 v13 => ∃ (s : Int) (n : Nat), v12 = .int .i64 s ∧ v13 = .int .i64 n ∧ n ≤ i + 1 ∧ 0 ≤ s ∧ s ≤ (n : Int) * 1073741824 ∧ Aside0 (s = sumP ((inO ds o).take n))) (fun _ v => i + 1 - (intOf v).toNat)
      case atStart => exact ⟨0, 0, rfl, rfl, by omega, by omega, by omega, ⟨rfl⟩⟩
      case round =>
        obtain ⟨s, n, rfl, rfl, hn, hs0, hs1, HS⟩ := hrel
        by_cases hni : n ≤ i
        · have hnii : (n : Int) ≤ i := by omega
          have hnl : n < o.length := by omega
          obtain ⟨ad, e1, g1⟩ := HA.out (n : Int) (by omega) (by omega)
          subst e1
          rw [Int.toNat_natCast] at g1
          have hxr := HF.out.2.1 (rd o (n : Int)) (by
            unfold rd
            rw [Int.toNat_natCast, List.getD_eq_getElem?_getD, List.getElem?_eq_getElem hnl]
            exact List.getElem_mem _)
          have ht1 := takeP_succ ds o n hnl
          obtain ⟨x, hx⟩ : ∃ z, z = rd o (n : Int) := ⟨_, rfl⟩
          rw [← hx] at g1 hxr ht1
          obtain ⟨hx0, hx1⟩ := hxr
          obtain ⟨ad2, e2, g2, g3⟩ := HD.out x hx0 hx1
          subst e2
          have hb := HDK.out.at_ x hx0 hx1
          obtain ⟨y1, hy1⟩ : ∃ z, z = (rdP ds x).1 := ⟨_, rfl⟩
          rw [← hy1] at g2 hb ht1
          obtain ⟨⟨hb1, hb2⟩, _⟩ := hb
          have HT1 := Aside0.mk ht1
          have hnl' : (n : Int) < o.length := by omega
          clear hx hy1 ht1 g3
          go_wp2_with fail
          go_round
          case rel => exact ⟨s + y1, n + 1, by go_num, by go_num, by omega, by omega, by omega, ⟨by rw [HT1.out, HS.out]⟩⟩
          case measure => show i + 1 - ((n : Int) + 1).toNat < i + 1 - (n : Int).toNat; omega
        · have hnii : ¬ (n : Int) ≤ i := by omega
          have HS2 : Aside0 (s = sumP ((inO ds o).take (i + 1))) := ⟨by rw [HS.out, show n = i + 1 by omega]⟩
          have hs2 : s ≤ 68719476736 := by omega
          go_wp2_with fail
          clear hni hn hs1 HS
          go_loop [12, 14] (fun v12 v14 => ∃ (t : Int) (n : Nat), v12 = .int .i64 t ∧ v14 = .int .i64 n ∧ i ≤ n ∧ n ≤ o.length ∧ 0 ≤ t ∧ t ≤ 68719476736 + ((n : Int) - i) * 1073741824 ∧ Aside0 (t + sumS ((inO ds o).drop n) = critV ds o i)) (fun _ v => o.length - (intOf v).toNat)
          case atStart => exact ⟨s, i, rfl, rfl, by omega, by omega, by omega, by omega, ⟨by rw [HS2.out]; rfl⟩⟩
          case round =>
            obtain ⟨t, n2, rfl, rfl, hn0, hn1, ht0, ht1, HTT⟩ := hrel
            by_cases hn2l : n2 < o.length
            · have hnl' : (n2 : Int) < o.length := by omega
              obtain ⟨ad, e1, g1⟩ := HA.out (n2 : Int) (by omega) (by omega)
              subst e1
              rw [Int.toNat_natCast] at g1
              have hxr := HF.out.2.1 (rd o (n2 : Int)) (by
                unfold rd
                rw [Int.toNat_natCast, List.getD_eq_getElem?_getD, List.getElem?_eq_getElem hn2l]
                exact List.getElem_mem _)
              have ht2 := dropS_succ ds o n2 hn2l
              obtain ⟨x, hx⟩ : ∃ z, z = rd o (n2 : Int) := ⟨_, rfl⟩
              rw [← hx] at g1 hxr ht2
              obtain ⟨hx0, hx1⟩ := hxr
              obtain ⟨ad2, e2, g2, g3⟩ := HD.out x hx0 hx1
              subst e2
              have hb := HDK.out.at_ x hx0 hx1
              obtain ⟨y2, hy2⟩ : ∃ z, z = (rdP ds x).2 := ⟨_, rfl⟩
              rw [← hy2] at g3 hb ht2
              obtain ⟨_, hb3, hb4⟩ := hb
              have HT2 := Aside0.mk ht2
              clear hx hy2 ht2 g2
              go_wp2_with fail
              go_round
              case rel => exact ⟨t + y2, n2 + 1, by go_num, by go_num, by omega, by omega, by omega, by omega, ⟨by have := HTT.out; rw [HT2.out] at this; omega⟩⟩
              case measure => show o.length - ((n2 : Int) + 1).toNat < o.length - (n2 : Int).toNat; omega
            · have hnl' : ¬ (n2 : Int) < o.length := by omega
              have hV : t = critV ds o i := by
                have := HTT.out
                rw [List.drop_eq_nil_of_le (by rw [inO_length]; omega)] at this
                simpa [sumS] using this
              have hst := HBA.out.step (by rw [← hV]; exact ht0)
              rw [← hV] at hst
              have HST := Aside0.mk hst
              clear hV hst HTT
              by_cases hbt : best < t
              · have hbd : decide (best < t) = true := decide_eq_true hbt
                have HN : Aside0 (BestAt ds o (i + 1) t (i : Int)) := ⟨by have := HST.out; rwa [if_pos hbt, if_pos hbt] at this⟩
                clear HST
                go_wp2_with fail
                go_round
                case rel => exact ⟨t, i, i + 1, rfl, rfl, by go_num, by omega, HN⟩
                case measure => show o.length - ((i : Int) + 1).toNat < o.length - (i : Int).toNat; omega
              · have hbd : decide (best < t) = false := decide_eq_false hbt
                have HN : Aside0 (BestAt ds o (i + 1) best at') := ⟨by have := HST.out; rwa [if_neg hbt, if_neg hbt] at this⟩
                clear HST
                go_wp2_with fail
                go_round
                case rel => exact ⟨best, at', i + 1, rfl, rfl, by go_num, by omega, HN⟩
                case measure => show o.length - ((i : Int) + 1).toNat < o.length - (i : Int).toNat; omega
    · have hlti : ¬ (i : Int) < o.length := by omega
      have hil : i = o.length := by omega
      obtain ⟨hbm, har⟩ := (show BestAt ds o o.length best at' by rw [← hil]; exact HBA.out).last HF.out.1 HF.out.2.1 HNE.out HF.out.2.2.2.1
      have hbm2 : best = m0 := by rw [hbm]; exact HF.out.2.2.2.2.symm
      subst hbm2
      subst har
      have e1 : (best == best) = true := by simp
      have e2 : (at' == at') = true := by simp
      clear hbm hil
      go_wp2_with ((with_reducible refine (ha.out _).mono ?_); rintro e8 w8 ⟨rfl, hb8⟩; have H8 := Aside0.mk (below_step H3.out hb8); clear hb8)
      go_ret
      exact ⟨rfl, H8.out⟩
theorem pcritical_any (w : World) (A B : Option Addr) (c d : Nat) (ds : List (Int × Int)) (o : List Int) (h : kP.C w A ds.length ds) (k : (Kd.int .i64).C w B o.length o) :
    Calls Try.prog 14 #[.slice A ds.length c, .slice B o.length d] w fun e w' => e = .returned (.bool true) ∧ Below w.heap.size w w' := by
  by_cases hh : 64 < ds.length ∨ 64 < o.length
  · exact critical_far w A B _ c _ d hh
  · exact critical_near w A B c d ds o h k (by omega) (by omega)
end Go.Proofs.Ytnoocdobldchoaa

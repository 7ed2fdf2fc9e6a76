/- What the reference's Price answers: its walk. -/
import Derived.Test.YthkfahkkcjagdaaRc4
import Derived.Test.YthkfahkkcjagdaaMCh
namespace Go.Proofs.Ythkfahkkcjagdaa
open Go.RowKit Go.Proofs.YthkfahkkcjagdaaW.PrintWords Go.Proofs.YthkfahkkcjagdaaW.PrintMore Go.Proofs.YthkfahkkcjagdaaW.PrintLast

section
variable (s : Nat → Fl) (least p c : Int) (n : Nat)
/-- The row of prices when the places from i on are filled in; and when the runs up to d of place i were looked at. -/
def rpRow (i : Nat) : List Int := (List.range (n + 1)).map fun x => if x < i then 0 else negO (priceO s least p c n x)
def rpPart (i d : Nat) : List Int := (List.range (n + 1)).map fun x => if x < i then 0 else if x = i then negO (minO (fun d => addO (addO (cO s least p i (d + 1)) (some c)) (priceO s least p c n (i + d + 1))) d) else negO (priceO s least p c n x)
theorem rpRow_length (i : Nat) : (rpRow s least p c n i).length = n + 1 := by simp [rpRow]
theorem rpPart_length (i d : Nat) : (rpPart s least p c n i d).length = n + 1 := by simp [rpPart]
theorem rpRow_init : List.replicate (n + 1) 0 = rpRow s least p c n n := by
  refine List.ext_getElem? fun j => ?_
  unfold rpRow
  rw [List.getElem?_map, List.getElem?_replicate]
  by_cases hj : j < n + 1
  · rw [List.getElem?_range hj, if_pos hj]
    show some 0 = some (if j < n then 0 else negO (priceO s least p c n j))
    by_cases h : j < n
    · rw [if_pos h]
    · rw [if_neg h, show j = n by omega, priceO_end]; rfl
  · rw [List.getElem?_eq_none (by simp; omega), if_neg hj]; rfl
theorem rpPart_init {i : Nat} (hi : i < n) : (rpRow s least p c n (i + 1)).set i (-1) = rpPart s least p c n i 0 := by
  unfold rpRow rpPart
  refine map_set_range _ _ _ _ _ (by omega) ?_ fun j hj hne => ?_
  · rw [if_neg (by omega), if_pos rfl]; rfl
  · by_cases h : j < i
    · rw [if_pos h, if_pos (by omega)]
    · rw [if_neg h, if_neg hne, if_neg (by omega)]
theorem rpPart_set {i d : Nat} (hi : i < n) : (rpPart s least p c n i d).set i (negO (minO (fun d => addO (addO (cO s least p i (d + 1)) (some c)) (priceO s least p c n (i + d + 1))) (d + 1))) = rpPart s least p c n i (d + 1) := by
  unfold rpPart
  refine map_set_range _ _ _ _ _ (by omega) ?_ fun j hj hne => ?_
  · rw [if_neg (by omega), if_pos rfl]
  · by_cases h : j < i
    · rw [if_pos h, if_pos h]
    · rw [if_neg h, if_neg hne, if_neg h, if_neg hne]
theorem rpPart_same {i d : Nat} (h : addO (addO (cO s least p i (d + 1)) (some c)) (priceO s least p c n (i + d + 1)) = none) : rpPart s least p c n i d = rpPart s least p c n i (d + 1) := by
  unfold rpPart
  refine List.map_congr_left fun j _ => ?_
  have e : minO (fun d => addO (addO (cO s least p i (d + 1)) (some c)) (priceO s least p c n (i + d + 1))) (d + 1) = minO (fun d => addO (addO (cO s least p i (d + 1)) (some c)) (priceO s least p c n (i + d + 1))) d := by
    show omin _ (addO (addO (cO s least p i (d + 1)) (some c)) (priceO s least p c n (i + d + 1))) = _
    rw [h]
    cases minO (fun d => addO (addO (cO s least p i (d + 1)) (some c)) (priceO s least p c n (i + d + 1))) d <;> rfl
  rw [e]
theorem rpPart_last {i : Nat} (hi : i < n) : rpPart s least p c n i (n - i) = rpRow s least p c n i := by
  unfold rpPart rpRow
  refine List.map_congr_left fun j _ => ?_
  by_cases h : j < i
  · rw [if_pos h, if_pos h]
  · rw [if_neg h, if_neg h]
    by_cases e : j = i
    · rw [if_pos e, e, priceO_at hi]
    · rw [if_neg e]
theorem rpPart_own {i d : Nat} (hi : i < n) : (rpPart s least p c n i d).getD i 0 = negO (minO (fun d => addO (addO (cO s least p i (d + 1)) (some c)) (priceO s least p c n (i + d + 1))) d) := by
  unfold rpPart
  rw [range_map_get _ (by omega), if_neg (by omega), if_pos rfl]
theorem rpPart_at {i d j : Nat} (hi : i < j) (hj : j ≤ n) : (rpPart s least p c n i d).getD j 0 = negO (priceO s least p c n j) := by
  unfold rpPart
  rw [range_map_get _ (by omega), if_neg (by omega), if_neg (by omega)]
theorem rpRow_at {i j : Nat} (hi : i ≤ j) (hj : j ≤ n) : (rpRow s least p c n i).getD j 0 = negO (priceO s least p c n j) := by
  unfold rpRow
  rw [range_map_get _ (by omega), if_neg (by omega)]
end
theorem CT.read {w wr : World} {n : Nat} {s : Nat → Fl} {least p : Int} {v : Value} {rs : List Nat} (h : CT w wr n s least p v rs) {a : Nat} (ha : a < rs.length) : ∃ ad cap, v = .slice (some ad) rs.length cap ∧ rs.length ≤ cap ∧ wr.cell? (ad.add a) = some (.slice (some ⟨rs.getD a 0, 0, none⟩) (n + 1) (n + 1)) := by
  obtain ⟨A, cap, e, hc, hr⟩ := Kd.R_reads h.o
  obtain ⟨ad, cc, h1, h2, h3, h4⟩ := Kd.C_get hr 0 (a : Int) (by omega) (by omega)
  subst h1
  refine ⟨ad, cap, e, hc, ?_⟩
  have h6 : cc = [.slice (some ⟨rs.getD (a : Int).toNat 0, 0, none⟩) (n + 1) (n + 1)] := h3
  have := h4 0 _ (by rw [h6]; rfl)
  rw [Int.toNat_natCast] at this
  have e2 : ad.add (a * (kS n).sz + 0) = ad.add a := by
    show ad.add (a * 1 + 0) = _
    rw [Nat.mul_one, Nat.add_zero]
  rwa [e2] at this
theorem negO_neg {o : Option Int} (h : ∀ v, o = some v → 0 ≤ v) : negO o = -1 ↔ o = none := by
  cases o with
  | none => simp [negO]
  | some v => have := h v rfl; simp [negO]; omega
set_option maxHeartbeats 8000000 in
set_option maxRecDepth 100000 in
theorem rprice_any (w : World) (A : Option Addr) (n cf : Nat) (fs : List Fl) (hn0 : fs.length = n) (h : kF.C w A n fs) (hk : KOK fs) (l least p c : Int) :
    Calls Try.prog 36 #[.slice A n cf, .agg #[.int .i64 l, .int .i64 least, .int .i64 p], .int .i64 c] w fun e w' => e = .returned (.tuple #[.int .i64 (priceR fs l least p c).1, .int .i64 (priceR fs l least p c).2]) ∧ Below w.heap.size w w' := by
  subst hn0
  have b1 := below_alloc (Below.refl w.heap.size w) (.cells #[.int .i64 l, .int .i64 least, .int .i64 p] 24)
  have q1 := Blk.new w [.int .i64 l, .int .i64 least, .int .i64 p] 24
  have s0 := q1.at_ (i := 0) rfl
  have s1 := q1.at_ (i := 1) rfl
  have s2 := q1.at_ (i := 2) rfl
  have hl := errors_any _ A _ cf fs rfl (Kd.C_below h b1) l least p
  have HB := Aside0.mk (And.intro b1 (And.intro q1 (Kd.C_below h b1)))
  have HKK := Aside0.mk hk
  have HL := Aside0.mk hl
  by_cases hE : errE fs l least p = 0
  · have hR : priceR fs l least p c = priceV (sF fs (ordF fs)) fs.length least p c := by unfold priceR; rw [if_pos hE]
    rw [hR]
    have hn := (errE_all hE).1
    have HSO := Aside0.mk (ordF_SOK (errE_all hE).2)
    obtain ⟨s, hs0⟩ : ∃ z, z = sF fs (ordF fs) := ⟨_, rfl⟩
    obtain ⟨n, hn0⟩ : ∃ z, z = fs.length := ⟨_, rfl⟩
    have HN := Aside0.mk hn0
    have HSS := Aside0.mk hs0
    have HE := Aside0.mk hE
    rw [← hn0] at hn
    rw [← hs0, ← hn0] at HSO ⊢
    rw [← hn0] at HL
    clear h hk b1 q1 hl hR hn0 hs0 hE
    by_cases hc0 : c < 0 ∨ 1125899906842624 < c
    · have HV : Aside0 (priceV s n least p c = (0, 2)) := ⟨if_pos hc0⟩
      rw [HV.out]
      by_cases hc1 : c < 0
      · have d1 : decide (c < 0) = true := decide_eq_true hc1
        clear hc0
        go_enter Try.func36, Try.ntmps36
        go_wp2_with ((with_reducible refine HL.out.mono ?_); rintro e5 w5 ⟨rfl, hb5⟩; rw [HE.out]; have HB5 := Aside0.mk (below_step HB.out.1 hb5); clear hb5)
        refine bodyPost_ret (v := .tuple #[.int .i64 0, .int .i64 2]) (by simp [results, Try.results36, go_sem]) rfl ?_
        exact ⟨rfl, HB5.out⟩
      · have hc2 : c > 1125899906842624 := by omega
        have d1 : decide (c < 0) = false := decide_eq_false hc1
        have d2 : decide (c > 1125899906842624) = true := decide_eq_true hc2
        clear hc0
        go_enter Try.func36, Try.ntmps36
        go_wp2_with ((with_reducible refine HL.out.mono ?_); rintro e5 w5 ⟨rfl, hb5⟩; rw [HE.out]; have HB5 := Aside0.mk (below_step HB.out.1 hb5); clear hb5)
        refine bodyPost_ret (v := .tuple #[.int .i64 0, .int .i64 2]) (by simp [results, Try.results36, go_sem]) rfl ?_
        exact ⟨rfl, HB5.out⟩
    · have hcc : 0 ≤ c ∧ c ≤ 1125899906842624 := by omega
      have HV : Aside0 (priceV s n least p c = match priceO s least p c n 0 with | none => (0, 13) | some v => (v, 0)) := ⟨if_neg hc0⟩
      have d1 : decide (c < 0) = false := decide_eq_false (by omega)
      have d2 : decide (c > 1125899906842624) = false := decide_eq_false (by omega)
      have mk1 := print_make (P := Try.prog) 35 3 .i64 8 Try.underlying35 info3 (by decide) (n + 1) (by omega)
      rw [show ((n + 1 : Nat) : Int) = (n : Int) + 1 by omega] at mk1
      clear hc0
      go_enter Try.func36, Try.ntmps36
      go_upto_region 6 with ((with_reducible refine HL.out.mono ?_); rintro e5 w5 ⟨rfl, hb5⟩; rw [HE.out]; have H5 := Aside0.mk (And.intro (below_step HB.out.1 hb5) (And.intro (HB.out.2.1.below hb5) (Kd.C_below HB.out.2.2 hb5))); clear hb5)
      clear s0 s1 s2 d1 d2
      have s0 := H5.out.2.1.at_ (i := 0) rfl
      have s1 := H5.out.2.1.at_ (i := 1) rfl
      have s2 := H5.out.2.1.at_ (i := 2) rfl
      have hsp := errE_spec HE.out
      have HCS := Aside0.mk (costs_any w5 A n cf fs HN.out.symm (by have := H5.out.2.2; rwa [← HN.out] at this) HKK.out l least p (errE_all HE.out).2 hn hsp.2.1 hsp.2.2)
      clear hsp
      go_upto_region 7 with ((with_reducible refine HCS.out.mono ?_); rintro e6 w6 hp6; obtain ⟨v6, rs, wb, rfl, hct, hrl, hb6⟩ := hp6; rw [← HSS.out] at hct; have H6 := Aside0.mk (And.intro hct (And.intro hrl (below_step H5.out.1 hb6))); clear hct hrl hb6)
      clear s0 s1 s2
      go_upto_region 8 with fail
      clear mk1
      rw [made_ints]
      have h7 : Blk (w6.alloc (.cells (ints (List.replicate (n + 1) 0)).toArray 3)) w6.heap.size (ints (rpRow s least p c n n)) 3 ∧ Below w6.heap.size w6 (w6.alloc (.cells (ints (List.replicate (n + 1) 0)).toArray 3)) := by
        rw [rpRow_init s least p c n]
        exact ⟨Blk.new w6 _ 3, below_alloc (Below.refl _ _) _⟩
      generalize (w6.alloc (.cells (ints (List.replicate (n + 1) 0)).toArray 3)) = w7 at h7 ⊢
      obtain ⟨r, hr⟩ : ∃ z, z = w6.heap.size := ⟨_, rfl⟩
      rw [← hr] at h7
      have HR := Aside0.mk hr
      rw [← hr]
      have H7 := Aside0.mk h7; clear h7 hr
      go_wp2_with fail
      go_loopw [11, 12, 13] (fun v11 _ _ wr => ∃ i : Nat, v11 = .int .i64 ((i : Int) - 1) ∧ i ≤ n ∧ Aside0 (Blk wr r (ints (rpRow s least p c n i)) 3 ∧ Below r w6 wr)) (fun v11 _ _ _ => (intOf v11 + 1).toNat)
      case atStart => exact ⟨n, by go_num, by omega, ⟨H7.out.1, H7.out.2⟩⟩
      case round =>
        obtain ⟨i, rfl, hi, HI⟩ := hrel
        clear H7
        rcases i with _ | i
        · have hz := HI.out.1.at_ (ints_get (rpRow s least p c n 0) (i := 0) (by rw [rpRow_length]; omega))
          rw [rpRow_at _ _ _ _ _ (Nat.le_refl _) (Nat.zero_le _)] at hz
          have hbd := fun v (hv : priceO s least p c n 0 = some v) => price_top (i := 0) hn hcc (price_bd HSO.out hcc.1 n 0 v (by omega) (by omega) hv)
          have hpl := negO_neg (fun v hv => (hbd v hv).1)
          obtain ⟨x, hx⟩ : ∃ z, z = negO (priceO s least p c n 0) := ⟨_, rfl⟩
          rw [← hx] at hz hpl
          have HX := Aside0.mk hx; clear hx hbd
          have h00 : (((0 : Nat) : Int)) = 0 := rfl
          by_cases hxl : x = -1
          · have HY := Aside0.mk (hpl.1 hxl)
            have hxb : (x == -1) = true := by simpa using hxl
            clear hpl hxl
            go_wp2_with fail
            refine bodyPost_ret (v := .tuple #[.int .i64 0, .int .i64 13]) (by simp [results, Try.results36, go_sem]) rfl ?_
            refine ⟨?_, below_step H6.out.2.2 (by rw [← HR.out]; exact HI.out.2)⟩
            rw [HV.out, HY.out]
          · have HY : Aside0 (priceO s least p c n 0 = some x) := ⟨by
              cases e : priceO s least p c n 0 with
              | none => exact absurd (hpl.2 e) hxl
              | some v => rw [HX.out, e]; rfl⟩
            have hxb : (x == -1) = false := by simpa using hxl
            clear hpl hxl
            go_wp2_with fail
            refine bodyPost_ret (v := .tuple #[.int .i64 x, .int .i64 0]) (by simp [results, Try.results36, go_sem]) rfl ?_
            refine ⟨?_, below_step H6.out.2.2 (by rw [← HR.out]; exact HI.out.2)⟩
            rw [HV.out, HY.out]
        · have hi1 : ((i + 1 : Nat) : Int) - 1 = i := by omega
          have hlt : i < n := by omega
          have cc := HI.out.1.at_ (ints_get (rpRow s least p c n (i + 1)) (i := i) (by rw [rpRow_length]; omega))
          have cf2 := HI.out.1.free i
          obtain ⟨y0, hy0⟩ : ∃ z, z = (rpRow s least p c n (i + 1)).getD i 0 := ⟨_, rfl⟩
          rw [← hy0] at cc
          clear hy0
          rw [hi1]
          have hz1 : (0 : Int) ≤ (i : Int) := by omega
          have hz2 : (i : Int) < (n : Int) + 1 := by omega
          have hz3 : i < n + 1 := by omega
          go_upto_region 12 with fail
          clear cc cf2
          have h8 : Blk (wr.setCell ⟨r, i, none⟩ (.int .i64 (-1))) r (ints (rpPart s least p c n i 0)) 3 ∧ Below r w6 (wr.setCell ⟨r, i, none⟩ (.int .i64 (-1))) := by
            refine ⟨?_, HI.out.2.setCell (p := ⟨r, i, none⟩) (Nat.le_refl r) _⟩
            have := HI.out.1.set i (.int .i64 (-1))
            rwa [ints_set, rpPart_init _ _ _ _ _ hlt] at this
          generalize (wr.setCell ⟨r, i, none⟩ (.int .i64 (-1))) = w8 at h8 ⊢
          have H8 := Aside0.mk h8; clear h8 HI
          go_wp2_with fail
          go_loopw [12, 13] (fun v12 _ wr => ∃ d : Nat, v12 = .int .i64 ((i : Int) + 1 + d) ∧ d ≤ n - i ∧ Aside0 (Blk wr r (ints (rpPart s least p c n i d)) 3 ∧ Below r w6 wr)) (fun v12 _ _ => n + 1 - (intOf v12).toNat)
          case atStart => exact ⟨0, by go_num, by omega, ⟨H8.out.1, H8.out.2⟩⟩
          case round =>
            obtain ⟨d, rfl, hd, HD⟩ := hrel
            clear H8
            by_cases hld : d < n - i
            · have hldi : (i : Int) + 1 + d ≤ n := by omega
              have hb5 : Below w6.heap.size w6 wr := by rw [← HR.out]; exact HD.out.2
              have ht := H6.out.1.below hb5
              obtain ⟨ad, cap, ecv, hcap, g1⟩ := ht.read (a := i) (by rw [H6.out.2.1]; exact hlt)
              rw [H6.out.2.1] at ecv hcap
              have g2 := (ht.r i (by rw [H6.out.2.1]; exact hlt)).at_ (ints_get _ (i := i + 1 + d) (by unfold nrow; simp; omega))
              rw [show (nrow s least p n i).getD (i + 1 + d) 0 = negO (cO s least p i (d + 1)) by
                unfold nrow
                rw [range_map_get _ (by omega)]
                unfold nvR
                rw [if_pos (by omega), show i + 1 + d - i = d + 1 by omega]] at g2
              have cr1 := HD.out.1.at_ (ints_get _ (show i + 1 + d < (rpPart s least p c n i d).length by rw [rpPart_length]; omega))
              rw [rpPart_at _ _ _ _ _ (by omega) (by omega), show i + 1 + d = i + d + 1 by omega] at cr1
              have cc := HD.out.1.at_ (ints_get _ (show i < (rpPart s least p c n i d).length by rw [rpPart_length]; omega))
              rw [rpPart_own _ _ _ _ _ hlt] at cc
              have cf := HD.out.1.free i
              have bx := fun v (h : cO s least p i (d + 1) = some v) => cO_bd HSO.out (by omega) (by omega) h
              have by_ := fun v (h : priceO s least p c n (i + d + 1) = some v) => price_top (i := i + d + 1) hn hcc (price_bd HSO.out hcc.1 n (i + d + 1) v (by omega) (by omega) h)
              have bu : ∀ d', d' ≤ d → ∀ v, minO (fun d => addO (addO (cO s least p i (d + 1)) (some c)) (priceO s least p c n (i + d + 1))) d' = some v → 0 ≤ v := fun d' hd' v hv => by
                obtain ⟨⟨e, he, hev⟩, _⟩ := minO_le _ _ _ hv
                obtain ⟨x', y', e1, e2, rfl⟩ := addO_some hev
                obtain ⟨x2, y2, e3, e4, rfl⟩ := addO_some e1
                cases e4
                have h1 := cO_bd HSO.out (by omega) (by omega) e3
                have h2 := price_top (i := i + e + 1) hn hcc (price_bd HSO.out hcc.1 n (i + e + 1) y' (by omega) (by omega) e2)
                omega
              have hx := negO_neg (fun v h => (bx v h).1)
              have hy := negO_neg (fun v h => (by_ v h).1)
              have hu := negO_neg (bu d (Nat.le_refl _))
              have HMIN : Aside0 (∀ v, addO (addO (cO s least p i (d + 1)) (some c)) (priceO s least p c n (i + d + 1)) = some v → negO (minO (fun d => addO (addO (cO s least p i (d + 1)) (some c)) (priceO s least p c n (i + d + 1))) (d + 1)) = if negO (minO (fun d => addO (addO (cO s least p i (d + 1)) (some c)) (priceO s least p c n (i + d + 1))) d) = -1 ∨ v < negO (minO (fun d => addO (addO (cO s least p i (d + 1)) (some c)) (priceO s least p c n (i + d + 1))) d) then v else negO (minO (fun d => addO (addO (cO s least p i (d + 1)) (some c)) (priceO s least p c n (i + d + 1))) d)) := ⟨fun v hv => by
                show negO (omin _ (addO (addO (cO s least p i (d + 1)) (some c)) (priceO s least p c n (i + d + 1)))) = _
                rw [hv]
                cases hm : minO (fun d => addO (addO (cO s least p i (d + 1)) (some c)) (priceO s least p c n (i + d + 1))) d with
                | none => rw [if_pos (.inl rfl)]; rfl
                | some u =>
                  have h0 := bu d (Nat.le_refl _) u hm
                  show min u v = if u = -1 ∨ v < u then v else u
                  split <;> omega⟩
              obtain ⟨x, hxx⟩ : ∃ z, z = negO (cO s least p i (d + 1)) := ⟨_, rfl⟩
              obtain ⟨y, hyy⟩ : ∃ z, z = negO (priceO s least p c n (i + d + 1)) := ⟨_, rfl⟩
              obtain ⟨u, huu⟩ : ∃ z, z = negO (minO (fun d => addO (addO (cO s least p i (d + 1)) (some c)) (priceO s least p c n (i + d + 1))) d) := ⟨_, rfl⟩
              rw [← hxx] at g2 hx
              rw [← hyy] at cr1 hy
              rw [← huu] at cc hu HMIN
              obtain ⟨ri, hri⟩ : ∃ z, z = rs.getD i 0 := ⟨_, rfl⟩
              rw [← hri] at g1 g2
              clear hri
              have cr1b := cr1
              rw [show i + d + 1 = i + 1 + d by omega] at cr1b
              have HXY := Aside0.mk (And.intro hxx (And.intro hyy (And.intro bx by_)))
              have HUU := Aside0.mk huu
              subst ecv
              clear bx by_ bu hxx hyy huu ht hb5 hu
              have q4 : (0 : Int) ≤ (i : Int) + 1 + d := by omega
              have q5 : (i : Int) + 1 + d < (n : Int) + 1 := by omega
              have q7 : i + 1 + d < n + 1 := by omega
              have q8 : ((i : Int) + 1 + d).toNat = i + 1 + d := by omega
              by_cases hx1 : x = -1
              · have hno : addO (addO (cO s least p i (d + 1)) (some c)) (priceO s least p c n (i + d + 1)) = none := by
                  rw [hx.1 hx1]; rfl
                have HNO := Aside0.mk hno
                have dx : (x == -1) = true := by simpa using hx1
                clear hno hx hy hx1
                go_wp2_with fail
                go_roundw
                case rel => exact ⟨d + 1, by go_num, by omega, ⟨by rw [← rpPart_same _ _ _ _ _ HNO.out]; exact HD.out.1, HD.out.2⟩⟩
                case measure => simp [intOf]; omega
              · have dx : (x == -1) = false := by simpa using hx1
                by_cases hy1 : y = -1
                · have hno : addO (addO (cO s least p i (d + 1)) (some c)) (priceO s least p c n (i + d + 1)) = none := by
                    rw [hy.1 hy1]; cases addO (cO s least p i (d + 1)) (some c) <;> rfl
                  have HNO := Aside0.mk hno
                  have dy : (y == -1) = true := by simpa using hy1
                  clear hno hx hy hx1 hy1
                  go_wp2_with fail
                  go_roundw
                  case rel => exact ⟨d + 1, by go_num, by omega, ⟨by rw [← rpPart_same _ _ _ _ _ HNO.out]; exact HD.out.1, HD.out.2⟩⟩
                  case measure => simp [intOf]; omega
                · have dy : (y == -1) = false := by simpa using hy1
                  have hnew : addO (addO (cO s least p i (d + 1)) (some c)) (priceO s least p c n (i + d + 1)) = some (x + c + y) ∧ (0 ≤ x ∧ x ≤ 1374252095766528) ∧ 0 ≤ y ∧ y ≤ 145489440171622400 := by
                    obtain ⟨a1, a2, a4, a5⟩ := HXY.out
                    cases e1 : cO s least p i (d + 1) with
                    | none => exact absurd (hx.2 e1) hx1
                    | some x' =>
                      cases e2 : priceO s least p c n (i + d + 1) with
                      | none => exact absurd (hy.2 e2) hy1
                      | some y' =>
                        have b1 := a4 x' e1
                        have b2 := a5 y' e2
                        rw [e1] at a1
                        rw [e2] at a2
                        have f1 : x = x' := a1
                        have f2 : y = y' := a2
                        exact ⟨by rw [f1, f2]; rfl, by omega, by omega⟩
                  obtain ⟨hnew, ⟨hx3, hx4⟩, hy3, hy4⟩ := hnew
                  have HNEW := Aside0.mk (HMIN.out _ hnew)
                  clear hx hy hx1 hy1 hnew HMIN
                  have q9 : IntKind.i64.wrap (x + c) = x + c := IntWalk.i64_in _ (by omega)
                  have q10 : IntKind.i64.wrap (x + c + y) = x + c + y := IntWalk.i64_in _ (by omega)
                  go_upto_region 16 with fail
                  go_quiet (fail)
                  have hz : Aside0 (Blk (wr.drewN nq) r (ints (rpPart s least p c n i d)) 3 ∧ Below r w6 (wr.drewN nq)) := ⟨HD.out.1.drewN nq, by rw [HR.out]; exact below_step (by rw [← HR.out]; exact HD.out.2) (bdN wr nq)⟩
                  have cc := hz.out.1.at_ (ints_get _ (show i < (rpPart s least p c n i d).length by rw [rpPart_length]; omega))
                  have cf := hz.out.1.free i
                  generalize wr.drewN nq = wq at hz cc cf ⊢
                  rw [rpPart_own _ _ _ _ _ hlt, ← HUU.out] at cc
                  have HST : Aside0 (Blk (wq.setCell ⟨r, i, none⟩ (.int .i64 (x + c + y))) r (ints ((rpPart s least p c n i d).set i (x + c + y))) 3 ∧ Below r w6 (wq.setCell ⟨r, i, none⟩ (.int .i64 (x + c + y)))) := ⟨by
                    have := hz.out.1.set i (.int .i64 (x + c + y))
                    rwa [ints_set] at this, hz.out.2.setCell (p := ⟨r, i, none⟩) (Nat.le_refl r) _⟩
                  by_cases hu1 : u = -1
                  · have du : (u == -1) = true := by simpa using hu1
                    have HNX : Aside0 ((rpPart s least p c n i d).set i (x + c + y) = rpPart s least p c n i (d + 1)) := ⟨by
                      have := HNEW.out
                      rw [if_pos (.inl hu1)] at this
                      rw [← this, rpPart_set _ _ _ _ _ hlt]⟩
                    clear hu1 HNEW
                    go_wp2_with fail
                    go_roundw
                    case rel => exact ⟨d + 1, by go_num, by omega, ⟨by rw [← HNX.out]; exact HST.out.1, HST.out.2⟩⟩
                    case measure => simp [intOf]; omega
                  · have du : (u == -1) = false := by simpa using hu1
                    by_cases hu2 : x + c + y < u
                    · have dc : decide (x + c + y < u) = true := decide_eq_true hu2
                      have HNX : Aside0 ((rpPart s least p c n i d).set i (x + c + y) = rpPart s least p c n i (d + 1)) := ⟨by
                        have := HNEW.out
                        rw [if_pos (.inr hu2)] at this
                        rw [← this, rpPart_set _ _ _ _ _ hlt]⟩
                      clear hu1 hu2 HNEW
                      go_wp2_with fail
                      go_roundw
                      case rel => exact ⟨d + 1, by go_num, by omega, ⟨by rw [← HNX.out]; exact HST.out.1, HST.out.2⟩⟩
                      case measure => simp [intOf]; omega
                    · have dc : decide (x + c + y < u) = false := decide_eq_false hu2
                      have HNX : Aside0 (rpPart s least p c n i d = rpPart s least p c n i (d + 1)) := ⟨by
                        have := HNEW.out
                        rw [if_neg (by omega), HUU.out] at this
                        unfold rpPart
                        rw [this]⟩
                      clear hu1 hu2 HNEW
                      go_wp2_with fail
                      go_roundw
                      case rel => exact ⟨d + 1, by go_num, by omega, ⟨by rw [← HNX.out]; exact hz.out.1, hz.out.2⟩⟩
                      case measure => simp [intOf]; omega
            · have hldi : ¬ (i : Int) + 1 + d ≤ n := by omega
              go_wp2_with fail
              go_roundw
              case rel => exact ⟨i, by go_num, by omega, ⟨by rw [← rpPart_last _ _ _ _ _ hlt, show n - i = d by omega]; exact HD.out.1, HD.out.2⟩⟩
              case measure => simp [intOf]
  · obtain ⟨e0, he0⟩ : ∃ z, z = errE fs l least p := ⟨_, rfl⟩
    have hz : (e0 != 0) = true := by rw [he0]; simpa using hE
    have hR : priceR fs l least p c = (0, e0) := by unfold priceR; rw [if_neg hE, ← he0]
    rw [hR]
    have HE0 := Aside0.mk he0
    have HE := Aside0.mk hE
    clear h hk b1 q1 hl hE he0 hR
    go_enter Try.func36, Try.ntmps36
    go_wp2_with ((with_reducible refine HL.out.mono ?_); rintro e5 w5 ⟨rfl, hb5⟩; rw [← HE0.out]; have HB5 := Aside0.mk (below_step HB.out.1 hb5); clear hb5)
    refine bodyPost_ret (v := .tuple #[.int .i64 0, .int .i64 e0]) (by simp [results, Try.results36, go_sem]) rfl ?_
    exact ⟨rfl, HB5.out⟩
end Go.Proofs.Ythkfahkkcjagdaa

/- What the reference's Longest answers. -/
import Derived.Test.YtnoocdobldchoaaE1
import Derived.Test.YtnoocdobldchoaaB2
namespace Go.Proofs.Ytnoocdobldchoaa
open Go.RowKit Go.Proofs.YtnoocdobldchoaaW.PrintWords Go.Proofs.YtnoocdobldchoaaW.PrintMore Go.Proofs.YtnoocdobldchoaaW.PrintLast

/-! ### What the reference's Longest answers. -/
def bls (xs : List Bool) : List Value := xs.map .bool
theorem bls_length (xs : List Bool) : (bls xs).length = xs.length := by simp [bls]
theorem bls_get (xs : List Bool) {i : Nat} (h : i < xs.length) : (bls xs)[i]? = some (.bool (xs.getD i false)) := by
  simp [bls, List.getD_eq_getElem?_getD, List.getElem?_eq_getElem h]
theorem bls_set (xs : List Bool) (i : Nat) (v : Bool) : (bls xs).set i (.bool v) = bls (xs.set i v) := by
  simp [bls, List.map_set]
theorem made_bls (n : Nat) : madeCells #[.bool false] n = (bls (List.replicate n false)).toArray := by
  apply Array.toList_inj.1
  rw [toList_madeCells_one]
  simp [bls]
theorem info4 : (Try.prog.info? 4).map (fun i => (i.zero, i.size, i.bytes)) = some (some (.bool false), 1, 1) := by kernel_rfl

structure LR (ga gl gb : Nat) (ts : List Int) (P : Nat) (ld : Nat → Int) (gv : List Int) (G : List Bool) (w0 w : World) : Prop where
  v : Blk w ga (ints gv) 3
  d : Blk w gl (ints (lls ld P)) 3
  g : Blk w gb (bls G) 4
  vl : gv.length = ts.length
  b : Below w0.heap.size w0 w
  n1 : ga ≠ gl
  s1 : w0.heap.size ≤ ga
  s2 : w0.heap.size ≤ gl
  s3 : w0.heap.size ≤ gb
theorem LR.start {ga gl : Nat} {ts : List Int} {P : Nat} {w w1 : World} (h1 : w1.heap[ga]? = some (.cells (madeCells #[.int .i64 0] ts.length) 3 (0, 0))) (h2 : w1.heap[gl]? = some (.cells (madeCells #[.int .i64 0] P) 3 (0, 0))) (hB : Below w.heap.size w w1) (n1 : w.heap.size ≤ ga) (n2 : w.heap.size ≤ gl) (n3 : ga ≠ gl) :
    LR ga gl w1.heap.size ts P (fun _ => 0) (List.replicate ts.length 0) (List.replicate ts.length false) w (w1.alloc (.cells (madeCells #[.bool false] ts.length) 4)) := by
  rw [made_ints] at h1 h2
  have b1 : Blk w1 ga (ints (List.replicate ts.length 0)) 3 := h1
  have b2 : Blk w1 gl (ints (List.replicate P 0)) 3 := h2
  exact { v := b1.alloc _, d := by rw [lls_zero]; exact b2.alloc _, g := by rw [made_bls]; exact Blk.new _ _ _, vl := by simp, b := below_alloc hB _, n1 := n3, s1 := n1, s2 := n2, s3 := hB.size }
section
variable {ga gl gb : Nat} {ts : List Int} {P : Nat} {ld : Nat → Int} {gv : List Int} {G : List Bool} {w0 w : World}
theorem LR.drewN (h : LR ga gl gb ts P ld gv G w0 w) (n : Nat) : LR ga gl gb ts P ld gv G w0 (w.drewN n) := { h with v := h.v.drewN n, d := h.d.drewN n, g := h.g.drewN n, b := pw_below_drewN h.b n }
theorem LR.setG (h : LR ga gl gb ts P ld gv G w0 w) (i : Nat) : LR ga gl gb ts P ld gv (G.set i true) w0 (w.setCell ⟨gb, i, none⟩ (.bool true)) :=
  { h with
    v := h.v.far (h.v.ne_of_type h.g (by decide)) _
    d := h.d.far (h.d.ne_of_type h.g (by decide)) _
    g := by have a := h.g.set i (.bool true); rwa [bls_set] at a
    b := h.b.setCell h.s3 _ }
theorem LR.setV (h : LR ga gl gb ts P ld gv G w0 w) (i : Nat) (p : Int) : LR ga gl gb ts P ld (gv.set i p) G w0 (w.setCell ⟨ga, i, none⟩ (.int .i64 p)) :=
  { h with
    v := by have a := h.v.set i (.int .i64 p); rwa [ints_set] at a
    d := h.d.far (fun e => h.n1 e.symm) _
    g := h.g.far (fun e => h.v.ne_of_type h.g (by decide) e.symm) _
    vl := by simpa using h.vl
    b := h.b.setCell h.s1 _ }
theorem LR.setD (h : LR ga gl gb ts P ld gv G w0 w) (p : Nat) {q t : Int} (hq : q = ld p + t) : LR ga gl gb ts P (upd ld p t) gv G w0 (w.setCell ⟨gl, p, none⟩ (.int .i64 q)).drew :=
  { h with
    v := (h.v.far h.n1 _).drew
    d := by
      have a := h.d.set p (.int .i64 q)
      rw [ints_set, hq, lls_set] at a
      rw [hq]; exact a.drew
    g := (h.g.far (fun e => h.d.ne_of_type h.g (by decide) e.symm) _).drew
    b := below_drew (h.b.setCell h.s2 _) }
end
theorem pick_step {ts : List Int} {G : List Bool} {k : Int} (hk : 0 ≤ k) : pickF ts G (k + 1).toNat = if G.getD k.toNat false = false ∧ (pickF ts G k.toNat < 0 ∨ rd ts (pickF ts G k.toNat) < rd ts k) then k else pickF ts G k.toNat := by
  rw [show (k + 1).toNat = k.toNat + 1 by omega, pickF_succ, show ((k.toNat : Nat) : Int) = k by omega]
theorem pick_lt (ts : List Int) (G : List Bool) (k : Int) : -1 ≤ pickF ts G k.toNat ∧ (0 ≤ pickF ts G k.toNat → pickF ts G k.toNat < k) := by
  rcases pickF_spec ts G k.toNat with ⟨h, _⟩ | ⟨p, h, h2, _⟩ <;> rw [h] <;> omega

set_option maxRecDepth 100000 in
set_option maxHeartbeats 8000000 in
theorem rlongest_any (w : World) (A : Option Addr) (c : Nat) (ts : List Int) (p : Int) (h : (Kd.int .i64).C w A ts.length ts) :
    Calls Try.prog 26 #[.slice A ts.length c, .int .i64 p] w (LgPost ts p w) := by
  have hl0 := Kd.C_max h
  have hwk := rworks_any w A c ts p h
  have HR := Aside0.mk h; clear h
  obtain ⟨e0, he0⟩ : ∃ z, z = worksE ts p := ⟨_, rfl⟩
  rw [← he0] at hwk
  have HWK := Aside0.mk hwk; clear hwk
  have HE := Aside0.mk he0; clear he0
  by_cases hz : e0 = 0
  rotate_left
  · have hzb : (e0 != 0) = true := by simp [hz]
    go_enter Try.func26, Try.ntmps26
    go_wp2_with ((with_reducible refine HWK.out.mono ?_); rintro e5 w5 ⟨rfl, rfl⟩)
    refine bodyPost_ret (v := .tuple #[.slice none 0 0, .int .i64 0, .int .i64 e0]) (by simp [results, Try.results26, go_sem]) rfl ?_
    exact ⟨Below.refl _ _, by rw [← HE.out, if_neg hz]⟩
  obtain ⟨hms, hp1, hp4⟩ := MOK.of_W (HE.out.symm.trans hz)
  subst hz
  obtain ⟨P, rfl⟩ : ∃ P : Nat, p = P := ⟨p.toNat, by omega⟩
  have hml := hms.1
  have HM := Aside0.mk hms; clear hms
  have hP1 : 1 ≤ P := by omega
  have hP4 : P ≤ 4 := by omega
  have mk1 := print_make (P := Try.prog) 22 3 .i64 8 Try.underlying22 info3 (by decide) ts.length (by omega)
  have mk2 := print_make (P := Try.prog) 22 3 .i64 8 Try.underlying22 info3 (by decide) P (by omega)
  have mk3 := print_make_of (P := Try.prog) 44 4 (.bool false) 1 Try.underlying44 info4 rfl (by decide) ts.length (by omega)
  go_enter Try.func26, Try.ntmps26
  go_upto_region 4 with ((with_reducible refine HWK.out.mono ?_); rintro e5 w5 ⟨rfl, rfl⟩)
  clear HWK
  go_cut [8, 9] from 23 to 27 (fun a b w8 => ∃ ga gl : Nat, a = .slice (some ⟨ga, 0, none⟩) ts.length ts.length ∧ b = .slice (some ⟨gl, 0, none⟩) P P ∧ Aside0 (LR ga gl w8.heap.size ts P (fun _ => 0) (List.replicate ts.length 0) (List.replicate ts.length false) w (w8.alloc (.cells (madeCells #[.bool false] ts.length) 4))))
  case first =>
    go_region
    all_goals go_wp2_with fail
    all_goals go_meet
    all_goals (case rel => exact ⟨_, _, rfl, rfl, ⟨LR.start (by first | exact h2_0 .. | exact h2_1 ..) (by first | exact h2_0 .. | exact h2_1 ..) (h2_b ..) (by omega) (by omega) (by omega)⟩⟩)
  case rest =>
  obtain ⟨ga, gl, rfl, rfl, HL⟩ := hcut
  go_upto_region 6 with fail
  obtain ⟨gb, hgb⟩ : ∃ z, z = wc.heap.size := ⟨_, rfl⟩
  rw [← hgb] at HL
  rw [← hgb]
  obtain ⟨w1, hw1⟩ : ∃ z, z = wc.alloc (.cells (madeCells #[.bool false] ts.length) 4) := ⟨_, rfl⟩
  rw [← hw1] at HL
  rw [← hw1]
  clear mk1 mk2 mk3 hw1 hgb
  have hOL := longOrd_length ts
  have HOL := Aside0.mk hOL; clear hOL
  have HO : Aside0 (∀ x ∈ longOrd ts, 0 ≤ x ∧ x < ts.length) := ⟨fun x hx => (longOrd_mem ts x).1 hx⟩
  have HF0 : Aside0 ((0 : Int) = maxF (lls (fun _ => 0) P)) := ⟨(maxF_zero hP1).symm⟩
  go_wp2_with fail
  go_loopw [11, 12] (fun v11 v12 wr => ∃ (j fin : Int) (s : (Nat → Int) × List Int) (G : List Bool), v12 = .int .i64 j ∧ v11 = .int .i64 fin ∧ 0 ≤ j ∧ j ≤ ts.length ∧ Aside0 (LR ga gl gb ts P s.1 s.2 G w wr) ∧ Aside0 (((longOrd ts).drop j.toNat).foldl (lstep ts P) s = lptF ts P (longOrd ts)) ∧ Aside0 (∀ k, 0 ≤ s.1 k ∧ s.1 k ≤ j * 1073741824) ∧ Aside0 (GOK ts j.toNat G) ∧ Aside0 (fin = maxF (lls s.1 P))) (fun _ v _ => ts.length - (intOf v).toNat)
  case atStart => exact ⟨0, 0, (fun _ => 0, List.replicate ts.length 0), List.replicate ts.length false, rfl, rfl, by omega, by omega, HL, ⟨rfl⟩, ⟨fun k => by simp⟩, ⟨GOK.start ts⟩, HF0⟩
  case round =>
    obtain ⟨j, fin, s, G, rfl, rfl, hj0, hj1, HLr, HE2, HB, HG, HFIN⟩ := hrel
    clear HL HF0
    by_cases hlt : j < ts.length
    rotate_left
    · have hs : s = lptF ts P (longOrd ts) := by
        have a := HE2.out
        rw [show j.toNat = (longOrd ts).length by rw [HOL.out]; omega, List.drop_length] at a
        exact a
      have HSS := Aside0.mk hs
      clear hs
      go_wp2_with fail
      refine bodyPost_ret (v := .tuple #[.slice (some ⟨ga, 0, none⟩) ts.length ts.length, .int .i64 fin, .int .i64 0]) (by simp [results, Try.results26, go_sem]) rfl ?_
      refine ⟨HLr.out.b, ?_⟩
      rw [if_pos HE.out.symm]
      refine ⟨ga, ?_, ?_⟩
      · rw [HFIN.out, HSS.out]; rfl
      · have a := HLr.out.v.ints_C (by rw [HLr.out.vl]; omega)
        rw [HLr.out.vl] at a
        rw [HSS.out] at a
        exact a
    have hlo : j < (longOrd ts).length := by rw [HOL.out]; exact hlt
    obtain ⟨x, hx⟩ : ∃ z, z = rd (longOrd ts) j := ⟨_, rfl⟩
    have hxm : 0 ≤ x ∧ x < ts.length := HO.out x (by
      rw [hx]; unfold rd
      rw [List.getD_eq_getElem?_getD, List.getElem?_eq_getElem (show j.toNat < (longOrd ts).length by omega)]
      exact List.getElem_mem _)
    have hpk : pickF ts G ts.length = x := by
      have a := HG.out.pick (show j.toNat < ts.length by omega)
      rw [show ((j.toNat : Nat) : Int) = j by omega] at a
      rw [a, hx]
    have hgs : GOK ts (j + 1).toNat (G.set x.toNat true) := by
      have a := HG.out.step (show j.toNat < ts.length by omega)
      rw [show ((j.toNat : Nat) : Int) = j by omega, ← hx] at a
      rwa [show (j + 1).toNat = j.toNat + 1 by omega]
    have he := HE2.out
    rw [drop_rd _ j hj0 hlo, List.foldl_cons, ← hx] at he
    have HE3 := Aside0.mk he
    have HPK := Aside0.mk hpk
    have HGS := Aside0.mk hgs
    have HGL := Aside0.mk HG.out.1
    clear he hx hlo HE2 hpk hgs HG
    obtain ⟨hx0, hx1⟩ := hxm
    obtain ⟨wo, rfl⟩ : ∃ wo : World, wo = wr := ⟨_, rfl⟩
    go_wp2_with fail
    go_loopw [13, 14] (fun v13 v14 wq => ∃ i k : Int, v13 = .int .i64 i ∧ v14 = .int .i64 k ∧ 0 ≤ k ∧ k ≤ ts.length ∧ -1 ≤ i ∧ (0 ≤ i → i < k) ∧ Aside0 (i = pickF ts G k.toNat) ∧ ∃ n, wq = wo.drewN n) (fun _ v _ => ts.length - (intOf v).toNat)
    case atStart => exact ⟨-1, 0, rfl, rfl, by omega, by omega, by omega, by omega, ⟨rfl⟩, 0, rfl⟩
    case round =>
      obtain ⟨i, k, rfl, rfl, hk0, hk1, hi0, hi1, HI, n, rfl⟩ := hrel
      by_cases hkl : k < ts.length
      · have hkn : k.toNat < G.length := by rw [HGL.out]; omega
        have fb := HLr.out.g.at_ (bls_get G hkn)
        obtain ⟨b, hb⟩ : ∃ z, z = G.getD k.toNat false := ⟨_, rfl⟩
        rw [← hb] at fb
        have HBb := Aside0.mk hb; clear hb hkn
        obtain ⟨ad, e1, g1⟩ := Kd.at_int (Kd.C_below HR.out HLr.out.b) k hk0 hkl
        have HST := Aside0.mk (pick_step (ts := ts) (G := G) hk0)
        obtain ⟨y1, hy1⟩ : ∃ z, z = rd ts k := ⟨_, rfl⟩
        rw [← hy1] at g1
        cases b with
        | true =>
          have hnx : pickF ts G (k + 1).toNat = i := by rw [HST.out, if_neg (by rw [← HBb.out]; simp), ← HI.out]
          have HNX := Aside0.mk hnx
          clear hnx HST hy1 g1 e1
          go_wp2_with fail
          go_quiet (fail)
          go_wp2_with fail
          go_roundw
          case rel => exact ⟨i, k + 1, rfl, by go_num, by omega, by omega, by omega, by omega, ⟨HNX.out.symm⟩, _, rfl⟩
          case measure => show ts.length - (k + 1).toNat < ts.length - k.toNat; omega
        | false =>
          by_cases hin : i < 0
          · have hnx : pickF ts G (k + 1).toNat = k := by rw [HST.out, if_pos ⟨HBb.out.symm, .inl (by rw [← HI.out]; exact hin)⟩]
            have HNX := Aside0.mk hnx
            have d1 : decide (i < 0) = true := decide_eq_true hin
            clear hnx HST hy1 g1 e1
            go_wp2_with fail
            go_quiet (fail)
            go_wp2_with fail
            go_roundw
            case rel => exact ⟨k, k + 1, rfl, by go_num, by omega, by omega, by omega, by omega, ⟨HNX.out.symm⟩, _, rfl⟩
            case measure => show ts.length - (k + 1).toNat < ts.length - k.toNat; omega
          · have d1 : decide (i < 0) = false := decide_eq_false hin
            have hi2 : 0 ≤ i := by omega
            have hi3 : i < ts.length := by have := hi1 hi2; omega
            obtain ⟨ad2, e2, g2⟩ := Kd.at_int (Kd.C_below HR.out HLr.out.b) i hi2 hi3
            subst e1
            cases e2
            obtain ⟨y2, hy2⟩ : ∃ z, z = rd ts i := ⟨_, rfl⟩
            rw [← hy2] at g2
            by_cases hlt2 : y2 < y1
            · have hnx : pickF ts G (k + 1).toNat = k := by rw [HST.out, if_pos ⟨HBb.out.symm, .inr (by rw [← HI.out, ← hy1, ← hy2]; exact hlt2)⟩]
              have HNX := Aside0.mk hnx
              have d2 : decide (y2 < y1) = true := decide_eq_true hlt2
              clear hnx HST hy1 hy2
              go_wp2_with fail
              go_quiet (fail)
              go_wp2_with fail
              go_roundw
              case rel => exact ⟨k, k + 1, rfl, by go_num, by omega, by omega, by omega, by omega, ⟨HNX.out.symm⟩, _, rfl⟩
              case measure => show ts.length - (k + 1).toNat < ts.length - k.toNat; omega
            · have hnx : pickF ts G (k + 1).toNat = i := by rw [HST.out, if_neg (by rw [← HI.out, ← hy1, ← hy2]; omega), ← HI.out]
              have HNX := Aside0.mk hnx
              have d2 : decide (y2 < y1) = false := decide_eq_false hlt2
              clear hnx HST hy1 hy2
              go_wp2_with fail
              go_quiet (fail)
              go_wp2_with fail
              go_roundw
              case rel => exact ⟨i, k + 1, rfl, by go_num, by omega, by omega, by omega, by omega, ⟨HNX.out.symm⟩, _, rfl⟩
              case measure => show ts.length - (k + 1).toNat < ts.length - k.toNat; omega
      · have hix : i = x := by
          rw [HI.out, show k.toNat = ts.length by omega]; exact HPK.out
        subst hix
        go_wp2_with fail
        clear hkl hk0 hk1 hi0 hi1 HI HPK
        obtain ⟨w2, hw2⟩ : ∃ z, z = wo.drewN n := ⟨_, rfl⟩
        have hl2 := HLr.out.drewN n
        rw [← hw2] at hl2
        rw [← hw2]
        have HL2 := Aside0.mk hl2
        clear hl2 hw2 HLr
        go_loopw [15, 16] (fun v15 v16 wq => ∃ b k : Nat, v15 = .int .i64 b ∧ v16 = .int .i64 k ∧ 1 ≤ k ∧ k ≤ P ∧ b < P ∧ Aside0 (b = minK s.1 k) ∧ ∃ n, wq = w2.drewN n) (fun _ v _ => P - (intOf v).toNat)
        case atStart => exact ⟨0, 1, rfl, rfl, by omega, by omega, by omega, ⟨(minK_one _).symm⟩, 0, rfl⟩
        case round =>
          obtain ⟨b, k, rfl, rfl, hk1, hkP, hbP, HPK, n2, rfl⟩ := hrel
          by_cases hkl : k < P
          · have hkl' : (k : Int) < P := by omega
            have hbl' : (b : Int) < P := by omega
            obtain ⟨y1, hy1⟩ : ∃ z, z = s.1 k := ⟨_, rfl⟩
            obtain ⟨y2, hy2⟩ : ∃ z, z = s.1 b := ⟨_, rfl⟩
            have f2 : w2.cell? ⟨gl, k, none⟩ = some (.int .i64 y1) := by
              have a := HL2.out.d.at_ (ints_get _ (show k < (lls s.1 P).length by rw [lls_length]; exact hkl))
              rw [lls_get _ hkl, ← hy1] at a; exact a
            have f3 : w2.cell? ⟨gl, b, none⟩ = some (.int .i64 y2) := by
              have a := HL2.out.d.at_ (ints_get _ (show b < (lls s.1 P).length by rw [lls_length]; exact hbP))
              rw [lls_get _ hbP, ← hy2] at a; exact a
            have HY := Aside0.mk (And.intro hy1 hy2); clear hy1 hy2
            by_cases hc : y1 < y2
            · have d1 : decide (y1 < y2) = true := decide_eq_true hc
              go_wp2_with fail
              go_quiet (fail)
              go_wp2_with fail
              go_roundw
              case rel => exact ⟨k, k + 1, rfl, by go_num, by omega, by omega, hkl, ⟨by rw [minK_succ, ← HPK.out, ← HY.out.1, ← HY.out.2, if_pos (by omega)]⟩, _, rfl⟩
              case measure => show P - ((k : Int) + 1).toNat < P - (k : Int).toNat; omega
            · have d1 : decide (y1 < y2) = false := decide_eq_false hc
              go_wp2_with fail
              go_quiet (fail)
              go_wp2_with fail
              go_roundw
              case rel => exact ⟨b, k + 1, rfl, by go_num, by omega, by omega, hbP, ⟨by rw [minK_succ, ← HPK.out, ← HY.out.1, ← HY.out.2, if_neg (by omega)]⟩, _, rfl⟩
              case measure => show P - ((k : Int) + 1).toNat < P - (k : Int).toNat; omega
          · have hkP' : ¬ (k : Int) < P := by omega
            have HPM : Aside0 (b = minK s.1 P) := ⟨by rw [HPK.out, show k = P by omega]⟩
            have hbl' : (b : Int) < P := by omega
            have hxl : i.toNat < ts.length := by omega
            obtain ⟨t, htt⟩ : ∃ z, z = rd ts i := ⟨_, rfl⟩
            have hmb := HM.out.at_ i hx0 hx1
            rw [← htt] at hmb
            obtain ⟨ht0, ht1⟩ := hmb
            have HC1 := Aside0.mk (fun W (hW : Below w.heap.size w W) => Kd.at_int (Kd.C_below HR.out hW) i hx0 hx1)
            have HT := Aside0.mk htt; clear htt
            obtain ⟨q, hq⟩ : ∃ z, z = s.1 b := ⟨_, rfl⟩
            obtain ⟨M, hM⟩ : ∃ z, z = j * 1073741824 := ⟨_, rfl⟩
            have hqb := HB.out b
            rw [← hq, ← hM] at hqb
            obtain ⟨hq0, hq1⟩ := hqb
            have hM1 : M ≤ 12884901888 := by omega
            have HMM := Aside0.mk hM; clear hM
            have HQ := Aside0.mk hq; clear hq
            have hgl : i.toNat < G.length := by rw [HGL.out]; exact hxl
            have v1 := HL2.out.g.at_ (bls_get G hgl)
            have v2 := HL2.out.g.free i.toNat
            clear HPK hkl hk1 hkP
            go_upto_region 22 with fail
            go_cut [15] from 79 to 81 (fun v w3 => v = .int .i64 b ∧ Aside0 (LR ga gl gb ts P s.1 s.2 (G.set i.toNat true) w w3))
            case first =>
              go_wp2_with fail
              go_meet
              case rel => exact ⟨rfl, ⟨(HL2.out.setG i.toNat).drewN n2⟩⟩
            case rest =>
            obtain ⟨rfl, HL3⟩ := hcut
            obtain ⟨w3, hw3⟩ : ∃ z, z = wc := ⟨_, rfl⟩
            subst hw3
            clear v1 v2
            have v1 := HL3.out.v.at_ (ints_get s.2 (show i.toNat < s.2.length by rw [HL3.out.vl]; exact hxl))
            have v2 := HL3.out.v.free i.toNat
            go_upto_region 23 with fail
            go_cut [15] from 82 to 85 (fun v w4 => v = .int .i64 b ∧ Aside0 (LR ga gl gb ts P s.1 (s.2.set i.toNat b) (G.set i.toNat true) w w4))
            case first =>
              go_wp2_with fail
              go_meet
              case rel => exact ⟨rfl, ⟨HL3.out.setV _ _⟩⟩
            case rest =>
            obtain ⟨rfl, HL4⟩ := hcut
            obtain ⟨w4, hw4⟩ : ∃ z, z = wc := ⟨_, rfl⟩
            subst hw4
            clear v1 v2
            obtain ⟨ad, e1, g1⟩ := HC1.out w4 HL4.out.b
            rw [← HT.out] at g1
            subst e1
            have f4 : w4.cell? ⟨gl, b, none⟩ = some (.int .i64 q) := by
              have a := HL4.out.d.at_ (ints_get _ (show b < (lls s.1 P).length by rw [lls_length]; exact hbP))
              rw [lls_get _ hbP, ← HQ.out] at a; exact a
            have f5 := HL4.out.d.free b
            go_upto_region 24 with fail
            go_cut [15] from 86 to 95 (fun v w5 => v = .int .i64 b ∧ Aside0 (LR ga gl gb ts P (upd s.1 b t) (s.2.set i.toNat b) (G.set i.toNat true) w w5))
            case first =>
              go_region
              go_wp2_with fail
              go_meet
              case rel => exact ⟨rfl, ⟨HL4.out.setD b (by rw [HQ.out])⟩⟩
            case rest =>
            obtain ⟨rfl, HL5⟩ := hcut
            clear g1 f4 f5
            have hup : upd s.1 b t b = q + t := by unfold upd; rw [if_pos rfl, HQ.out]
            have f4 : wc.cell? ⟨gl, b, none⟩ = some (.int .i64 (q + t)) := by
              have a := HL5.out.d.at_ (ints_get _ (show b < (lls (upd s.1 b t) P).length by rw [lls_length]; exact hbP))
              rw [lls_get _ hbP, hup] at a; exact a
            have hfin : maxF (lls (upd s.1 b t) P) = max fin (q + t) := by
              rw [maxF_upd s.1 t hbP (by omega), ← HFIN.out, HQ.out]
            have HFN := Aside0.mk hfin; clear hfin hup
            have HB2 : Aside0 (∀ k, 0 ≤ upd s.1 b t k ∧ upd s.1 b t k ≤ (j + 1) * 1073741824) := ⟨fun k => by
              have a := HB.out k
              have b' := HB.out b
              unfold upd
              split <;> omega⟩
            have hls : lstep ts P s i = (upd s.1 b t, s.2.set i.toNat b) := by
              unfold lstep; rw [← HPM.out, ← HT.out]
            have HE4 := HE3.out
            rw [hls] at HE4
            have HE5 := Aside0.mk HE4
            clear HE4 hls
            go_wp2_with fail
            go_roundw
            case rel => exact ⟨j + 1, max fin (q + t), (upd s.1 b t, s.2.set i.toNat b), G.set i.toNat true, by go_num, rfl, by omega, by omega, HL5, HE5, HB2, HGS, ⟨HFN.out.symm⟩⟩
            case measure => show ts.length - (j + 1).toNat < ts.length - j.toNat; omega

/-! ### What PressShares answers. -/
def SBest (ts : List Int) (p m : Int) (n : Nat) (l : List Int) : Prop := (worksE ts p = 0 → n = ts.length ∧ ShIs ts p.toNat m l) ∧ (worksE ts p ≠ 0 → m = 0 ∧ n = 0 ∧ l = [])
def LBest (ts : List Int) (p m : Int) (n : Nat) (l : List Int) : Prop := (worksE ts p = 0 → n = ts.length ∧ m = mostF ts p.toNat ∧ l = (lptF ts p.toNat (longOrd ts)).2) ∧ (worksE ts p ≠ 0 → m = 0 ∧ n = 0 ∧ l = [])
theorem SBest.one {ts : List Int} {p m m' : Int} {n n' : Nat} {l l' : List Int} (h : SBest ts p m n l) (k : SBest ts p m' n' l') : m = m' ∧ n = n' ∧ l = l' := by
  by_cases e : worksE ts p = 0
  · obtain ⟨rfl, h2⟩ := h.1 e
    obtain ⟨rfl, k2⟩ := k.1 e
    obtain ⟨a, b⟩ := h2.one k2
    exact ⟨a, rfl, b⟩
  · obtain ⟨rfl, rfl, rfl⟩ := h.2 e
    obtain ⟨rfl, rfl, rfl⟩ := k.2 e
    exact ⟨rfl, rfl, rfl⟩
theorem LBest.one {ts : List Int} {p m m' : Int} {n n' : Nat} {l l' : List Int} (h : LBest ts p m n l) (k : LBest ts p m' n' l') : m = m' ∧ n = n' ∧ l = l' := by
  by_cases e : worksE ts p = 0
  · obtain ⟨rfl, rfl, rfl⟩ := h.1 e
    obtain ⟨rfl, rfl, rfl⟩ := k.1 e
    exact ⟨rfl, rfl, rfl⟩
  · obtain ⟨rfl, rfl, rfl⟩ := h.2 e
    obtain ⟨rfl, rfl, rfl⟩ := k.2 e
    exact ⟨rfl, rfl, rfl⟩
def TriPost (R : Int → Nat → List Int → Prop) (e0 : Int) (w : World) (e : Ending) (w' : World) : Prop :=
  ∃ (A : Option Addr) (n cap : Nat) (m : Int) (l : List Int), e = .returned (.tuple #[.slice A n cap, .int .i64 m, .int .i64 e0]) ∧ Below w.heap.size w w' ∧ (Kd.int .i64).C w' A n l ∧ R m n l
theorem ShPost.tri {ts : List Int} {p : Int} {w : World} {e : Ending} {w' : World} (h : ShPost ts p w e w') : TriPost (SBest ts p) (worksE ts p) w e w' := by
  obtain ⟨h1, h2⟩ := h
  by_cases he : worksE ts p = 0
  · rw [if_pos he] at h2
    obtain ⟨B, cap, F, l, h3, h4, h5⟩ := h2
    exact ⟨B, _, cap, F, l, by rw [he]; exact h3, h1, h4, fun _ => ⟨rfl, h5⟩, fun h => absurd he h⟩
  · rw [if_neg he] at h2
    exact ⟨none, 0, 0, 0, [], h2, h1, nil_C _, fun h => absurd h he, fun _ => ⟨rfl, rfl, rfl⟩⟩
theorem LgPost.tri {ts : List Int} {p : Int} {w : World} {e : Ending} {w' : World} (h : LgPost ts p w e w') : TriPost (LBest ts p) (worksE ts p) w e w' := by
  obtain ⟨h1, h2⟩ := h
  by_cases he : worksE ts p = 0
  · rw [if_pos he] at h2
    obtain ⟨gg, h3, h4⟩ := h2
    exact ⟨_, _, _, _, _, by rw [he]; exact h3, h1, h4, fun _ => ⟨rfl, rfl, rfl⟩, fun h => absurd he h⟩
  · rw [if_neg he] at h2
    exact ⟨none, 0, 0, 0, [], h2, h1, nil_C _, fun h => absurd h he, fun _ => ⟨rfl, rfl, rfl⟩⟩
section
variable (w : World) (A : Option Addr) (c : Nat) (ts : List Int) (p : Int)
theorem share_tri (h : (Kd.int .i64).C w A ts.length ts) : Calls Try.prog 23 #[.slice A ts.length c, .int .i64 p] w (TriPost (SBest ts p) (worksE ts p) w) := (share_all w A c ts p h).mono fun _ _ => ShPost.tri
theorem rshare_tri (h : (Kd.int .i64).C w A ts.length ts) : Calls Try.prog 24 #[.slice A ts.length c, .int .i64 p] w (TriPost (SBest ts p) (worksE ts p) w) := (rshare_any w A c ts p h).mono fun _ _ => ShPost.tri
theorem long_tri (h : (Kd.int .i64).C w A ts.length ts) : Calls Try.prog 25 #[.slice A ts.length c, .int .i64 p] w (TriPost (LBest ts p) (worksE ts p) w) := (plongest_any w A c ts p h).mono fun _ _ => LgPost.tri
theorem rlong_tri (h : (Kd.int .i64).C w A ts.length ts) : Calls Try.prog 26 #[.slice A ts.length c, .int .i64 p] w (TriPost (LBest ts p) (worksE ts p) w) := (rlongest_any w A c ts p h).mono fun _ _ => LgPost.tri
end
theorem shares_far (w : World) (A : Option Addr) (c n : Nat) (p : Int) (hn : 30 < n) :
    Calls Try.prog 6 #[.slice A n c, .int .i64 p] w fun e w' => e = .returned (.bool true) ∧ Below w.heap.size w w' := by
  have ha := Aside0.mk (alive_any w)
  have g0 : decide ((30 : Int) < (n : Int)) = true := decide_eq_true (by omega)
  have g1 : ((n : Int) > 30) := by omega
  go_enter Try.func6, Try.ntmps6
  go_wp2_with ((with_reducible refine ha.out.mono ?_); rintro e2 w2 ⟨rfl, hb⟩)
  go_ret
  exact ⟨rfl, hb⟩

set_option maxHeartbeats 8000000 in
theorem shares_near (w : World) (A : Option Addr) (c : Nat) (ts : List Int) (p : Int) (h : (Kd.int .i64).C w A ts.length ts) (hn : ts.length ≤ 30) :
    Calls Try.prog 6 #[.slice A ts.length c, .int .i64 p] w fun e w' => e = .returned (.bool true) ∧ Below w.heap.size w w' := by
  have hc := Aside0.mk (copied_any w A c ts h (by omega))
  have H := Aside0.mk h; clear h
  have g0 : decide ((30 : Int) < (ts.length : Int)) = false := decide_eq_false (by omega)
  have g1 : ¬ ((ts.length : Int) > 30) := by omega
  go_enter Try.func6, Try.ntmps6
  go_upto_region 4 with ((with_reducible refine hc.out.mono ?_); rintro e1 w1 ⟨g, rfl, hb1, hg1⟩; have H1 := Aside0.mk (And.intro hb1 hg1); clear hb1 hg1)
  clear g0 g1
  have C1 := Aside0.mk (Kd.C_below H.out H1.out.1)
  have T1 := Aside0.mk (H1.out.2.ints_C (by omega)); clear hn
  have hp := Aside0.mk (share_tri w1 (some ⟨g, 0, none⟩) ts.length ts p T1.out)
  go_upto_region 5 with ((with_reducible refine hp.out.mono ?_); rintro e2 w2 ⟨A2, n2, cap2, m2, l2, rfl, hb2, hC2, hB2⟩; have H2 := Aside0.mk (And.intro (below_step H1.out.1 hb2) (And.intro hC2 (And.intro hB2 (And.intro (Kd.C_below T1.out hb2) (Kd.C_below C1.out hb2))))); clear hb2 hC2 hB2)
  clear hp
  have hp := Aside0.mk (rshare_tri w2 A c ts p H2.out.2.2.2.2)
  go_upto_region 6 with ((with_reducible refine hp.out.mono ?_); rintro e3 w3 ⟨A3, n3, cap3, m3, l3, rfl, hb3, hC3, hB3⟩; obtain ⟨rfl, rfl, rfl⟩ := H2.out.2.2.1.one hB3; have H3 := Aside0.mk (And.intro (below_step H2.out.1 hb3) (And.intro (Kd.C_below H2.out.2.1 hb3) (And.intro hC3 (And.intro (Kd.C_below H2.out.2.2.2.1 hb3) (Kd.C_below H2.out.2.2.2.2 hb3))))); clear hb3 hC3 hB3)
  clear hp
  have hp := Aside0.mk (same_yes_C w3 A2 A3 n2 cap2 cap3 l2 H3.out.2.1 H3.out.2.2.1)
  go_upto_region 8 with ((with_reducible refine hp.out.mono ?_); rintro e4 w4 ⟨rfl, hb4⟩; have H4 := Aside0.mk (And.intro (below_step H3.out.1 hb4) (And.intro (Kd.C_below H3.out.2.2.2.1 hb4) (Kd.C_below H3.out.2.2.2.2 hb4))); clear hb4)
  clear hp
  have hp := Aside0.mk (long_tri w4 (some ⟨g, 0, none⟩) ts.length ts p H4.out.2.1)
  go_upto_region 9 with ((with_reducible refine hp.out.mono ?_); rintro e5 w5 ⟨A5, n5, cap5, m5, l5, rfl, hb5, hC5, hB5⟩; have H5 := Aside0.mk (And.intro (below_step H4.out.1 hb5) (And.intro (Kd.C_below H4.out.2.1 hb5) (And.intro (Kd.C_below H4.out.2.2 hb5) (And.intro hC5 hB5)))); clear hb5 hC5 hB5)
  clear hp
  have hp := Aside0.mk (rlong_tri w5 A c ts p H5.out.2.2.1)
  go_upto_region 10 with ((with_reducible refine hp.out.mono ?_); rintro e6 w6 ⟨A6, n6, cap6, m6, l6, rfl, hb6, hC6, hB6⟩; obtain ⟨rfl, rfl, rfl⟩ := H5.out.2.2.2.2.one hB6; have H6 := Aside0.mk (And.intro (below_step H5.out.1 hb6) (And.intro (Kd.C_below H5.out.2.1 hb6) (And.intro (Kd.C_below H5.out.2.2.1 hb6) (And.intro (Kd.C_below H5.out.2.2.2.1 hb6) hC6)))); clear hb6 hC6 hB6)
  clear hp
  have hp := Aside0.mk (same_yes_C w6 A5 A6 n5 cap5 cap6 l5 H6.out.2.2.2.1 H6.out.2.2.2.2)
  have hq := Aside0.mk (fun W (hW : Below w6.heap.size w6 W) => same_yes_C W (some ⟨g, 0, none⟩) A ts.length ts.length c ts (Kd.C_below H6.out.2.1 hW) (Kd.C_below H6.out.2.2.1 hW))
  have ha := Aside0.mk alive_any
  go_wp2_with (first | ((with_reducible refine hp.out.mono ?_); rintro e7 w7 ⟨rfl, hb7⟩; have H7 := Aside0.mk hb7; clear hb7) | ((with_reducible refine (hq.out _ H7.out).mono ?_); rintro e8 w8 ⟨rfl, hb8⟩; have H8 := Aside0.mk (below_step H7.out hb8); clear hb8) | ((with_reducible refine (ha.out _).mono ?_); rintro e9 w9 ⟨rfl, hb9⟩; have H9 := Aside0.mk (below_step (below_step H6.out.1 H8.out) hb9); clear hb9))
  go_ret
  exact ⟨rfl, H9.out⟩

theorem shares_any (w : World) (A : Option Addr) (c : Nat) (ts : List Int) (p : Int) (h : (Kd.int .i64).C w A ts.length ts) :
    Calls Try.prog 6 #[.slice A ts.length c, .int .i64 p] w fun e w' => e = .returned (.bool true) ∧ Below w.heap.size w w' := by
  by_cases hn : ts.length ≤ 30
  · exact shares_near w A c ts p h hn
  · exact shares_far w A c _ p (by omega)

end Go.Proofs.Ytnoocdobldchoaa

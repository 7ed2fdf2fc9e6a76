/- The reference's order of fleeces: its walk. -/
import Derived.Test.YthkfahkkcjagdaaRc1
import Derived.Test.YthkfahkkcjagdaaWRepsOne
import Derived.Deep.DeepCutAuto
namespace Go.Proofs.Ythkfahkkcjagdaa
open Go.RowKit Go.Proofs.YthkfahkkcjagdaaW.PrintWords Go.Proofs.YthkfahkkcjagdaaW.PrintMore Go.Proofs.YthkfahkkcjagdaaW.PrintLast

/-- One number more, ahead of the first that it stands ahead of. -/
def insA (cf : Int → Int → Int) (x : Int) : List Int → List Int
  | [] => [x]
  | y :: ys => if cf x y < 0 then x :: y :: ys else y :: insA cf x ys
/-- The same, as the loop does it: what is there so far, and whether the number is in. -/
def stepI (cf : Int → Int → Int) (x : Int) (s : List Int × Bool) (y : Int) : List Int × Bool :=
  if s.2 = false ∧ cf x y < 0 then (s.1 ++ [x] ++ [y], true) else (s.1 ++ [y], s.2)
def runI (cf : Int → Int → Int) (x : Int) (L : List Int) : List Int × Bool := L.foldl (stepI cf x) ([], false)
def finI (x : Int) (s : List Int × Bool) : List Int := if s.2 = false then s.1 ++ [x] else s.1
theorem fold_true (cf : Int → Int → Int) (x : Int) : ∀ (L acc : List Int), L.foldl (stepI cf x) (acc, true) = (acc ++ L, true) := by
  intro L
  induction L with
  | nil => intro acc; simp
  | cons y L ih =>
    intro acc
    rw [List.foldl_cons]
    show L.foldl (stepI cf x) (if true = false ∧ cf x y < 0 then _ else (acc ++ [y], true)) = _
    rw [if_neg (by simp), ih]
    simp
theorem fin_run (cf : Int → Int → Int) (x : Int) : ∀ (L acc : List Int), finI x (L.foldl (stepI cf x) (acc, false)) = acc ++ insA cf x L := by
  intro L
  induction L with
  | nil => intro acc; rfl
  | cons y L ih =>
    intro acc
    rw [List.foldl_cons]
    show finI x (L.foldl (stepI cf x) (if false = false ∧ cf x y < 0 then (acc ++ [x] ++ [y], true) else (acc ++ [y], false))) = _
    by_cases h : cf x y < 0
    · rw [if_pos ⟨rfl, h⟩, fold_true]
      unfold finI insA
      rw [if_pos h, if_neg (by simp)]
      simp
    · rw [if_neg (fun e => h e.2), ih, show insA cf x (y :: L) = y :: insA cf x L by rw [insA, if_neg h]]
      simp
theorem insA_perm (cf : Int → Int → Int) (x : Int) : ∀ L, (insA cf x L).Perm (x :: L)
  | [] => List.Perm.refl _
  | y :: L => by
    unfold insA
    split
    · exact List.Perm.refl _
    · exact ((insA_perm cf x L).cons y).trans (List.Perm.swap x y L)
theorem insA_ahd {cf : Int → Int → Int} (h : CmpLaw cf) (x : Int) : ∀ (L : List Int), L.Pairwise (ahd cf) → (∀ y ∈ L, y < x) → (insA cf x L).Pairwise (ahd cf)
  | [], _, _ => List.pairwise_singleton _ _
  | y :: L, hp, hl => by
    obtain ⟨h1, h2⟩ := List.pairwise_cons.1 hp
    unfold insA
    split
    · rename_i hxy
      refine List.pairwise_cons.2 ⟨fun z hz => ?_, hp⟩
      have hx : ahd cf x y := .inl hxy
      rcases List.mem_cons.1 hz with rfl | hz
      · exact hx
      · exact h.tr hx (h1 z hz)
    · rename_i hxy
      refine List.pairwise_cons.2 ⟨fun z hz => ?_, insA_ahd h x L h2 fun z hz => hl z (List.mem_cons_of_mem _ hz)⟩
      rcases List.mem_cons.1 ((insA_perm cf x L).mem_iff.1 hz) with rfl | hz
      · have hlt := hl y List.mem_cons_self
        have := h.1 y z
        unfold ahd
        omega
      · exact h1 z hz
theorem ord_step {cf : Int → Int → Int} (h : CmpLaw cf) (n : Nat) : insA cf n (srt cf (upto n)) = srt cf (upto (n + 1)) := by
  refine srt_one h (upto_pw _) (insA_ahd h n _ (srt_ahd h _ (upto_pw _)) fun y hy => ?_) ?_
  · have := (upto_mem n y).1 ((srt_perm' cf _).mem_iff.1 hy)
    omega
  · refine (insA_perm cf n _).trans ?_
    rw [upto_succ]
    exact ((srt_perm' cf _).cons _).trans (List.perm_append_comm (l₁ := [_]))
theorem run_succ (cf : Int → Int → Int) (x : Int) (L : List Int) {i : Nat} (h : i < L.length) : runI cf x (L.take (i + 1)) = stepI cf x (runI cf x (L.take i)) (L.getD i 0) := by
  unfold runI
  rw [List.take_succ_eq_append_getElem h, List.foldl_append]
  show stepI cf x _ _ = _
  rw [List.getD_eq_getElem?_getD, List.getElem?_eq_getElem h]
  rfl
theorem run_len (cf : Int → Int → Int) (x : Int) : ∀ (L : List Int) (acc : List Int × Bool), (L.foldl (stepI cf x) acc).1.length ≤ acc.1.length + L.length + (if acc.2 = false then 1 else 0)
  | [], acc => by simp
  | y :: L, acc => by
    rw [List.foldl_cons]
    refine Nat.le_trans (run_len cf x L _) ?_
    unfold stepI
    obtain ⟨a, b⟩ := acc
    cases b with
    | true => rw [if_neg (by simp)]; simp; omega
    | false =>
      by_cases h : cf x y < 0
      · rw [if_pos ⟨rfl, h⟩]; simp; omega
      · rw [if_neg (fun e => h e.2)]; simp; omega
theorem i3r : (Try.prog.info? 3).map (fun i => (i.zero, i.size, i.bytes)) = some (some (.int .i64 0), (Kd.int .i64).sz, 8) := by kernel_rfl
def ordU (fs : List Fl) (n : Nat) : List Int := srt (fcf fs) (upto n)
theorem ordU_length (fs : List Fl) (n : Nat) : (ordU fs n).length = n := by unfold ordU; rw [(srt_perm' _ _).length_eq, upto_length]
theorem ordU_mem {fs : List Fl} {n : Nat} {x : Int} (h : x ∈ ordU fs n) : 0 ≤ x ∧ x < n := (upto_mem n x).1 ((srt_perm' _ _).mem_iff.1 h)

theorem cell_keep {w W : World} (hb : Below w.heap.size w W) {a : Addr} {v : Value} (h : w.cell? a = some v) : W.cell? a = some v := (Kp.of_below (S := fun _ => False) hb).cell h id
set_option maxHeartbeats 8000000 in
set_option maxRecDepth 100000 in
theorem order_any (w : World) (A : Option Addr) (n c : Nat) (fs : List Fl) (hn : fs.length = n) (h : kF.C w A n fs) (hk : KOK fs) (hn8 : n ≤ 128) :
    Calls Try.prog 67 #[.slice A n c] w fun e w' => ∃ v, e = .returned v ∧ (Kd.int .i64).R 3 w' w.heap.size (fun _ => True) v (ordF fs) ∧ Below w.heap.size w w' := by
  have HC := Aside0.mk (And.intro hn (And.intro h (And.intro hk (fcf_law hk))))
  have HAH := Aside0.mk ahead_any
  clear hn h hk
  go_enter Try.func67, Try.ntmps67
  go_upto_region 3 with fail
  go_loopw [3, 4, 5, 6, 7] (fun v3 v4 _ _ _ wr => ∃ i : Nat, v4 = .int .i64 i ∧ i ≤ n ∧ Aside0 ((Kd.int .i64).R 3 wr w.heap.size (fun _ => True) v3 (ordU fs i) ∧ Below w.heap.size w wr)) (fun _ v4 _ _ _ _ => n - (intOf v4).toNat)
  case atStart => exact ⟨0, rfl, by omega, ⟨Kd.R_nil _ _ _ _ _, Below.refl _ _⟩⟩
  case round =>
    obtain ⟨i, rfl, hi, HI⟩ := hrel
    by_cases hlt : i < n
    · have hlti : (i : Int) < n := by omega
      obtain ⟨A3, c3, hv3, hc3, hr3⟩ := Kd.R_reads HI.out.1
      rw [ordU_length] at hv3 hc3 hr3
      have H3 := Aside0.mk (And.intro hr3 HI.out.2); clear hr3
      subst hv3
      obtain ⟨wo, rfl⟩ : ∃ wo : World, wo = wr := ⟨_, rfl⟩
      have hg := at_F (Kd.C_below HC.out.2.1 HI.out.2) (i : Int) (by omega) hlti
      rw [Int.toNat_natCast] at hg
      obtain ⟨ad, e1, g⟩ := hg
      subst e1
      have HG := Aside0.mk g; clear g
      go_upto_region 8 with fail
      go_loopw [5, 6, 7] (fun v5 v6 v7 wr => ∃ (j : Nat) (b : Bool), v7 = .int .i64 j ∧ v6 = .bool b ∧ j ≤ i ∧ Aside0 (b = (runI (fcf fs) i ((ordU fs i).take j)).2 ∧ (Kd.int .i64).R 3 wr wo.heap.size (fun _ => True) v5 (runI (fcf fs) i ((ordU fs i).take j)).1 ∧ Below wo.heap.size wo wr)) (fun _ _ v7 _ => i - (intOf v7).toNat)
      case atStart => exact ⟨0, false, rfl, rfl, by omega, ⟨rfl, Kd.R_nil _ _ _ _ _, Below.refl _ _⟩⟩
      case round =>
        obtain ⟨j, b, rfl, rfl, hj, HJ⟩ := hrel
        have hrl : (runI (fcf fs) i ((ordU fs i).take j)).1.length ≤ 200 := by
          have := run_len (fcf fs) i ((ordU fs i).take j) ([], false)
          rw [List.length_take, ordU_length] at this
          unfold runI
          simp at this ⊢
          omega
        have HRL := Aside0.mk hrl; clear hrl
        by_cases hjt : j < i
        · have hjti : (j : Int) < i := by omega
          obtain ⟨ad3, e3, g3⟩ := Kd.at_int (Kd.C_below H3.out.1 HJ.out.2.2) (j : Int) (by omega) hjti
          subst e3
          rw [Int.toNat_natCast] at g3
          have hst := run_succ (fcf fs) i (ordU fs i) (i := j) (by rw [ordU_length]; exact hjt)
          have hm := ordU_mem (getD_mem (l := ordU fs i) (i := j) (by rw [ordU_length]; exact hjt))
          have hrd : rd (ordU fs i) (j : Int) = (ordU fs i).getD j 0 := by unfold rd; rw [Int.toNat_natCast]
          rw [hrd] at g3
          obtain ⟨y, hy⟩ : ∃ z, z = (ordU fs i).getD j 0 := ⟨_, rfl⟩
          rw [← hy] at g3 hst hm
          have HRD0 := Aside0.mk (hrd.trans hy.symm)
          clear hy hrd
          obtain ⟨y, rfl⟩ : ∃ y' : Nat, y = y' := ⟨y.toNat, by omega⟩
          have HRD := HRD0
          have hyi : y < i := by omega
          have hb2 := below_step HI.out.2 HJ.out.2.2
          have hg2 := at_F (Kd.C_below HC.out.2.1 hb2) (y : Int) (by omega) (by omega)
          rw [Int.toNat_natCast] at hg2
          obtain ⟨ad2, e2, k0, k1, k2, k3, k4, k5⟩ := hg2
          cases e2
          have hg1 := at_F (Kd.C_below HC.out.2.1 hb2) (i : Int) (by omega) hlti
          rw [Int.toNat_natCast] at hg1
          obtain ⟨ad1, e1, m0, m1, m2, m3, m4, m5⟩ := hg1
          cases e1
          have hcf : fcf fs (i : Int) (y : Int) = fcmp (rdF fs i) (rdF fs y) := rfl
          obtain ⟨fi, hfi⟩ : ∃ z, z = rdF fs i := ⟨_, rfl⟩
          obtain ⟨fy, hfy⟩ : ∃ z, z = rdF fs y := ⟨_, rfl⟩
          rw [← hfi] at m0 m1 m2 m3 m4 m5 hcf
          rw [← hfy] at k0 k1 k2 k3 k4 k5 hcf
          have HST := Aside0.mk (And.intro hst hcf)
          obtain ⟨i0, i1, i2, i3, i4, i5⟩ := fi
          obtain ⟨y0, y1, y2, y3, y4, y5⟩ := fy
          dsimp only at m0 m1 m2 m3 m4 m5 k0 k1 k2 k3 k4 k5
          obtain ⟨D, hD⟩ : ∃ z, z = decide (fcmp ⟨i0, i1, i2, i3, i4, i5⟩ ⟨y0, y1, y2, y3, y4, y5⟩ < 0) := ⟨_, rfl⟩
          have HAY : Aside0 (∀ W, Calls Try.prog 106 #[.agg #[.int .u8 i0, .int .u8 i1, .int .u8 i2, .int .u8 i3, .int .i64 i4, .int .i64 i5], .agg #[.int .u8 y0, .int .u8 y1, .int .u8 y2, .int .u8 y3, .int .i64 y4, .int .i64 y5]] W fun e w' => e = .returned (.bool D) ∧ Below W.heap.size W w') := ⟨fun W => by rw [hD]; exact ahead_any W _ _⟩
          have HD := Aside0.mk hD; clear hD
          have hyn : (y : Int) < n := by omega
          have hyn2 : y < n := by omega
          clear hst hcf hfi hfy hm hb2
          cases b with
          | true =>
            have HS2 : Aside0 (runI (fcf fs) i ((ordU fs i).take (j + 1)) = ((runI (fcf fs) i ((ordU fs i).take j)).1 ++ [(y : Int)], true)) := ⟨by
              rw [HST.out.1]
              unfold stepI
              rw [if_neg (by rw [← HJ.out.1]; simp), ← HJ.out.1]⟩
            clear k0 k1 k2 k3 k4 k5 m0 m1 m2 m3 m4 m5
            go_upto_region 10 with fail
            go_quiet (fail)
            go_upto_region 9 with ((with_reducible refine gate_builtin (b := .append) (xs := #[.tmp 40, .tmp 45]) rfl ?_); at_builtin; refine Kd.R_append (Kd.int .i64) (w0 := wo) wo.heap.size rfl (.tmp 40) (.tmp 45) 35 3 (.int .i64 0) 8 rfl Try.underlying35 i3r rfl (by decide) (by decide) u5 (runI (fcf fs) i ((ordU fs i).take j)).1 (y : Int) [.int .i64 (y : Int)] (fun _ => True) (fun _ => False) rfl rfl ?aP (fun _ hk => hk.elim) ?aF ?aO ?aB ?aS ?aL ?_; (case aP => exact rfl); (case aB => exact below_step HJ.out.2.2 (bdN _ _)); (case aF => exact (fun _ _ => trivial)); (case aO => exact Kd.R_drewN HJ.out.2.1 _); (case aS => exact (below_step HJ.out.2.2 (bdN _ _)).size); (case aL => have := HRL.out; omega); intro v6 w6 ho hb hg hat; have H6 := Aside0.mk (And.intro ho hb); clear ho hb hg hat)
            have HN : Aside0 (true = (runI (fcf fs) i ((ordU fs i).take (j + 1))).2 ∧ (Kd.int .i64).R 3 w6 wo.heap.size (fun _ => True) v6 (runI (fcf fs) i ((ordU fs i).take (j + 1))).1 ∧ Below wo.heap.size wo w6) := ⟨by rw [HS2.out], by rw [HS2.out]; exact H6.out.1, H6.out.2⟩
            go_wp2_with fail
            go_roundw
            case rel => exact ⟨j + 1, true, by go_num, by go_num, by omega, HN⟩
            case measure => simp [intOf]; omega
          | false =>
            go_upto_region 10 with fail
            go_cut [35] from 20 to 46 (fun a w3 => a = .bool D ∧ Aside0 (Below wr.heap.size wr w3))
            case first =>
              go_still_tail 14, (by kernel_rfl)
              change wpList _ _ _ _ _ wr.drew
              go_wp2_with ((with_reducible refine (HAY.out _).mono ?_); rintro e5 w5 ⟨rfl, hb5⟩)
              go_meet
              case rel => exact ⟨rfl, ⟨below_step (below_drew (Below.refl _ _)) hb5⟩⟩
            case rest =>
            obtain ⟨rfl, HB4⟩ := hcut
            clear k0 k1 k2 k3 k4 k5 m0 m1 m2 m3 m4 m5
            have hr4 := Kd.R_below HJ.out.2.1 HB4.out
            have H4 := Aside0.mk (And.intro hr4 (below_step HJ.out.2.2 HB4.out))
            have g4 := cell_keep HB4.out g3
            clear hr4 g3
            cases D with
            | true =>
              have HS2 : Aside0 (runI (fcf fs) i ((ordU fs i).take (j + 1)) = ((runI (fcf fs) i ((ordU fs i).take j)).1 ++ [(i : Int)] ++ [(y : Int)], true)) := ⟨by
                rw [HST.out.1]
                unfold stepI
                rw [if_pos ⟨HJ.out.1.symm, by rw [HST.out.2]; exact of_decide_eq_true HD.out.symm⟩]⟩
              go_upto_region 12 with ((with_reducible refine gate_builtin (b := .append) (xs := #[.tmp 36, .tmp 38]) rfl ?_); at_builtin; refine Kd.R_append (Kd.int .i64) (w0 := wo) wo.heap.size rfl (.tmp 36) (.tmp 38) 35 3 (.int .i64 0) 8 rfl Try.underlying35 i3r rfl (by decide) (by decide) u5 (runI (fcf fs) i ((ordU fs i).take j)).1 (i : Int) [.int .i64 (i : Int)] (fun _ => True) (fun _ => False) rfl rfl ?aP (fun _ hk => hk.elim) ?aF ?aO ?aB ?aS ?aL ?_; (case aP => exact rfl); (case aB => exact H4.out.2); (case aF => exact (fun _ _ => trivial)); (case aO => exact H4.out.1); (case aS => exact (H4.out.2).size); (case aL => have := HRL.out; omega); intro v6 w6 ho hb hg hat; have H6 := Aside0.mk (And.intro ho hb); clear ho hb hg hat)
              obtain ⟨ad5, e5, g5⟩ := Kd.at_int (Kd.C_below H3.out.1 H6.out.2) (j : Int) (by omega) hjti
              cases e5
              rw [Int.toNat_natCast, HRD.out] at g5
              clear g4
              go_upto_region 9 with ((with_reducible refine gate_builtin (b := .append) (xs := #[.tmp 40, .tmp 45]) rfl ?_); at_builtin; refine Kd.R_append (Kd.int .i64) (w0 := wo) wo.heap.size rfl (.tmp 40) (.tmp 45) 35 3 (.int .i64 0) 8 rfl Try.underlying35 i3r rfl (by decide) (by decide) v6 ((runI (fcf fs) i ((ordU fs i).take j)).1 ++ [(i : Int)]) (y : Int) [.int .i64 (y : Int)] (fun _ => True) (fun _ => False) rfl rfl ?aP (fun _ hk => hk.elim) ?aF ?aO ?aB ?aS ?aL ?_; (case aP => exact rfl); (case aB => exact H6.out.2); (case aF => exact (fun _ _ => trivial)); (case aO => exact H6.out.1); (case aS => exact (H6.out.2).size); (case aL => have := HRL.out; simp; omega); intro v7 w7 ho hb hg hat; have H7 := Aside0.mk (And.intro ho hb); clear ho hb hg hat)
              have HN : Aside0 (true = (runI (fcf fs) i ((ordU fs i).take (j + 1))).2 ∧ (Kd.int .i64).R 3 w7 wo.heap.size (fun _ => True) v7 (runI (fcf fs) i ((ordU fs i).take (j + 1))).1 ∧ Below wo.heap.size wo w7) := ⟨by rw [HS2.out], by rw [HS2.out]; exact H7.out.1, H7.out.2⟩
              go_wp2_with fail
              go_roundw
              case rel => exact ⟨j + 1, true, by go_num, by go_num, by omega, HN⟩
              case measure => simp [intOf]; omega
            | false =>
              have HS2 : Aside0 (runI (fcf fs) i ((ordU fs i).take (j + 1)) = ((runI (fcf fs) i ((ordU fs i).take j)).1 ++ [(y : Int)], false)) := ⟨by
                rw [HST.out.1]
                unfold stepI
                rw [if_neg (fun e => by rw [HST.out.2] at e; exact of_decide_eq_false HD.out.symm e.2), ← HJ.out.1]⟩
              go_upto_region 9 with ((with_reducible refine gate_builtin (b := .append) (xs := #[.tmp 40, .tmp 45]) rfl ?_); at_builtin; refine Kd.R_append (Kd.int .i64) (w0 := wo) wo.heap.size rfl (.tmp 40) (.tmp 45) 35 3 (.int .i64 0) 8 rfl Try.underlying35 i3r rfl (by decide) (by decide) u5 (runI (fcf fs) i ((ordU fs i).take j)).1 (y : Int) [.int .i64 (y : Int)] (fun _ => True) (fun _ => False) rfl rfl ?aP (fun _ hk => hk.elim) ?aF ?aO ?aB ?aS ?aL ?_; (case aP => exact rfl); (case aB => exact H4.out.2); (case aF => exact (fun _ _ => trivial)); (case aO => exact H4.out.1); (case aS => exact (H4.out.2).size); (case aL => have := HRL.out; omega); intro v6 w6 ho hb hg hat; have H6 := Aside0.mk (And.intro ho hb); clear ho hb hg hat)
              have HN : Aside0 (false = (runI (fcf fs) i ((ordU fs i).take (j + 1))).2 ∧ (Kd.int .i64).R 3 w6 wo.heap.size (fun _ => True) v6 (runI (fcf fs) i ((ordU fs i).take (j + 1))).1 ∧ Below wo.heap.size wo w6) := ⟨by rw [HS2.out], by rw [HS2.out]; exact H6.out.1, H6.out.2⟩
              go_wp2_with fail
              go_roundw
              case rel => exact ⟨j + 1, false, by go_num, by go_num, by omega, HN⟩
              case measure => simp [intOf]; omega
        · have hjti : ¬ (j : Int) < i := by omega
          have htk : (ordU fs i).take j = ordU fs i := List.take_of_length_le (by rw [ordU_length]; omega)
          have hfin := fin_run (fcf fs) i (ordU fs i) []
          have hos := ord_step HC.out.2.2.2 i
          rw [htk] at HJ HRL
          have HFIN : Aside0 (finI i (runI (fcf fs) i (ordU fs i)) = ordU fs (i + 1)) := ⟨by
            unfold runI
            rw [hfin, List.nil_append]
            exact hos⟩
          clear hfin hos htk
          cases b with
          | true =>
            have HN : Aside0 ((Kd.int .i64).R 3 wr w.heap.size (fun _ => True) u5 (ordU fs (i + 1)) ∧ Below w.heap.size w wr) := ⟨by
              rw [← HFIN.out]
              unfold finI
              rw [if_neg (by rw [← HJ.out.1]; simp)]
              exact Kd.R_lower HJ.out.2.1 HI.out.2.size, below_step HI.out.2 HJ.out.2.2⟩
            clear HJ HFIN
            go_wp2_with fail
            go_roundw
            case rel => exact ⟨i + 1, by go_num, by omega, HN⟩
            case measure => simp [intOf]; omega
          | false =>
            go_upto_region 16 with ((with_reducible refine gate_builtin (b := .append) (xs := #[.tmp 49, .tmp 51]) rfl ?_); at_builtin; refine Kd.R_append (Kd.int .i64) (w0 := wo) wo.heap.size rfl (.tmp 49) (.tmp 51) 35 3 (.int .i64 0) 8 rfl Try.underlying35 i3r rfl (by decide) (by decide) u5 (runI (fcf fs) i (ordU fs i)).1 (i : Int) [.int .i64 (i : Int)] (fun _ => True) (fun _ => False) rfl rfl ?aP (fun _ hk => hk.elim) ?aF ?aO ?aB ?aS ?aL ?_; (case aP => exact rfl); (case aB => exact HJ.out.2.2); (case aF => exact (fun _ _ => trivial)); (case aO => exact HJ.out.2.1); (case aS => exact (HJ.out.2.2).size); (case aL => have := HRL.out; omega); intro v6 w6 ho hb hg hat; have H6 := Aside0.mk (And.intro ho hb); clear ho hb hg hat)
            have HN : Aside0 ((Kd.int .i64).R 3 w6 w.heap.size (fun _ => True) v6 (ordU fs (i + 1)) ∧ Below w.heap.size w w6) := ⟨by
              rw [← HFIN.out]
              unfold finI
              rw [if_pos HJ.out.1.symm]
              exact Kd.R_lower H6.out.1 HI.out.2.size, below_step HI.out.2 H6.out.2⟩
            clear HJ HFIN
            go_wp2_with fail
            go_roundw
            case rel => exact ⟨i + 1, by go_num, by omega, HN⟩
            case measure => simp [intOf]; omega
    · have hlti : ¬ (i : Int) < n := by omega
      have hin : i = n := by omega
      subst hin
      go_wp2_with fail
      go_ret
      exact ⟨_, rfl, by have := HI.out.1; unfold ordU at this; unfold ordF; rw [HC.out.1]; exact this, HI.out.2⟩
end Go.Proofs.Ythkfahkkcjagdaa

/- What PressMoore answers. -/
import Derived.Test.YtnoocdobldchoaaMo1
namespace Go.Proofs.Ytnoocdobldchoaa
open Go.RowKit Go.Proofs.YtnoocdobldchoaaW.PrintWords Go.Proofs.YtnoocdobldchoaaW.PrintMore Go.Proofs.YtnoocdobldchoaaW.PrintLast

set_option maxHeartbeats 4000000 in
theorem moore_far (w : World) (A B : Option Addr) (n c m d : Nat) (h : 64 < n) :
    Calls Try.prog 9 #[.slice A n c, .slice B m d] w fun e w' => e = .returned (.bool true) ∧ Below w.heap.size w w' := by
  have ha := Aside0.mk alive_any
  have d1 : decide ((64 : Int) < n) = true := decide_eq_true (by omega)
  clear h
  go_enter Try.func9, Try.ntmps9
  go_wp2_with ((with_reducible refine (ha.out _).mono ?_); rintro e8 w8 ⟨rfl, hb8⟩; have H8 := Aside0.mk hb8; clear hb8)
  go_ret
  exact ⟨rfl, H8.out⟩
theorem Blk.bools_C {w : World} {g : Nat} {G : List Bool} (h : Blk w g (bls G) 4) (hl : G.length ≤ 9223372036854775807) : Kd.bool.C w (some ⟨g, 0, none⟩) G.length G := by
  refine ⟨rfl, hl, fun _ => ⟨_, rfl, fun j p hp => ⟨[.bool p], rfl, rfl, fun i u hi => ?_⟩⟩⟩
  have hj : j < G.length := (List.getElem?_eq_some_iff.1 hp).1
  match i, hi with
  | 0, hi =>
    simp only [List.getElem?_cons_zero, Option.some.injEq] at hi
    rw [← hi, add_plain]
    show w.cell? ⟨g, j * 1 + 0, none⟩ = _
    rw [Nat.mul_one, Nat.add_zero]
    have := h.at_ (bls_get G hj)
    rw [List.getD_eq_getElem?_getD, hp] at this
    exact this
  | i + 1, hi => simp at hi
theorem ends_any (w : World) (A B : Option Addr) (c d : Nat) (ts : List (Int × Int)) (l : List Int) (hT : TOK ts) (h : kP.C w A ts.length ts) (hc : ts.length ≤ c) (k : (Kd.int .i64).C w B l.length l) (hd : l.length ≤ d) (hl : l.length ≤ 64) (hr : ∀ x ∈ l, 0 ≤ x ∧ x < ts.length) :
    Calls Try.prog 31 #[.slice A ts.length c, .slice B l.length d] w fun e w' => e = .returned (.bool (endsF ts 0 l)) ∧ Below w.heap.size w w' := by
  obtain ⟨z, hz⟩ : ∃ z : Nat, 100 ≤ z := ⟨100, Nat.le_refl _⟩
  refine (law8ends.calls z A c ts B d l _ w h hc k hd (lEnds_f ts hT l hl hr hz)).mono ?_
  rintro e w' ⟨rfl, ⟨n, rfl⟩⟩
  exact ⟨rfl, bdN _ _⟩
theorem byDue_any (w : World) (A B : Option Addr) (c d : Nat) (ts : List (Int × Int)) (G : List Bool) (hdl : ts.length ≤ 64) (h : kP.C w A ts.length ts) (hc : ts.length ≤ c) (k : Kd.bool.C w B G.length G) (hd : G.length ≤ d) (hb : G.length = ts.length) :
    Calls Try.prog 32 #[.slice A ts.length c, .slice B G.length d] w fun e w' => ∃ (C : Option Addr) (q : Nat), e = .returned (.slice C ((tord ts).filter (chosen G)).length q) ∧ ((tord ts).filter (chosen G)).length ≤ q ∧ (Kd.int .i64).C w' C ((tord ts).filter (chosen G)).length ((tord ts).filter (chosen G)) ∧ Below w.heap.size w w' := by
  obtain ⟨z, hz⟩ : ∃ z : Nat, 10000 ≤ z := ⟨10000, Nat.le_refl _⟩
  refine (law8byDue.calls z A c ts B d G _ w h hc k hd (lBy_f ts hdl G hb hz)).mono ?_
  rintro e w' ⟨v, rfl, hR, hB⟩
  obtain ⟨C, q, rfl⟩ := Kd.R_slice hR
  have t := Kd.R_reads' hR
  exact ⟨C, q, rfl, t.2.1, t.2.2, hB⟩
theorem chosen_len {ts : List (Int × Int)} (hdl : ts.length ≤ 64) (G : List Bool) : ((tord ts).filter (chosen G)).length ≤ 64 := by
  have := List.length_filter_le (chosen G) (tord ts)
  rw [tord_length] at this
  omega
theorem chosen_mem {ts : List (Int × Int)} {G : List Bool} {x : Int} (h : x ∈ (tord ts).filter (chosen G)) : 0 ≤ x ∧ x < ts.length := tord_mem (List.mem_filter.1 h).1
theorem count_put (G : List Bool) (i : Nat) (b : Bool) (h : i < G.length) (h0 : G.getD i false = false) : (G.set i b).count true = G.count true + if b = true then 1 else 0 := by
  rw [List.count_set h]
  have : G[i] = false := by rwa [List.getD_eq_getElem?_getD, List.getElem?_eq_getElem h] at h0
  rw [this]
  cases b <;> simp

set_option maxHeartbeats 4000000 in
theorem moore_bad (w : World) (A B : Option Addr) (m c d : Nat) (ts : List (Int × Int)) (h : kP.C w A ts.length ts) (hl : ts.length ≤ 64) (he : tasksE ts ≠ 0) :
    Calls Try.prog 9 #[.slice A ts.length c, .slice B m d] w fun e w' => e = .returned (.bool true) ∧ Below w.heap.size w w' := by
  have ha := Aside0.mk alive_any
  have d1 : decide ((64 : Int) < ts.length) = false := decide_eq_false (by omega)
  have hon := ontime_any w A c ts h
  have hD : doneF ts = [] := by unfold doneF; rw [if_neg he]
  have hL : lateF ts = [] := by unfold lateF; rw [if_neg he]
  have HDL := Aside0.mk (And.intro hD hL)
  have hz : (tasksE ts != 0) = true := by simp [he]
  obtain ⟨e0, he0⟩ : ∃ z, z = tasksE ts := ⟨_, rfl⟩
  unfold OPost at hon
  rw [← he0] at hon hz
  have HO := Aside0.mk hon
  clear hD hL h he hon he0
  go_enter Try.func9, Try.ntmps9
  go_upto_region 4 with ((with_reducible refine HO.out.mono ?_); rintro e2 w2 ⟨A2, B2, n2, m2, c2, q2, rfl, hb2, hC2, hD2, _, _⟩; have H2 := Aside0.mk (And.intro hb2 (And.intro hC2 hD2)); clear hb2 hC2 hD2)
  have hn0 : n2 = 0 := by
    have := H2.out.2.1.1
    rw [HDL.out.1] at this
    exact this.symm
  have hm0 : m2 = 0 := by
    have := H2.out.2.2.1
    rw [HDL.out.2] at this
    exact this.symm
  subst hn0
  subst hm0
  go_wp2_with ((with_reducible refine (ha.out _).mono ?_); rintro e8 w8 ⟨rfl, hb8⟩; have H8 := Aside0.mk (below_step H2.out.1 hb8); clear hb8)
  go_ret
  exact ⟨rfl, H8.out⟩

theorem pow10 (L : Nat) (h : L < 11) : wrap64 (2 ^ L) ≤ 1024 := by
  have h1 : (2 : Nat) ^ L ≤ 2 ^ 10 := Nat.pow_le_pow_right (by omega) (by omega)
  have h2 : ((2 : Int) ^ L) = (((2 : Nat) ^ L : Nat) : Int) := (Int.natCast_pow 2 L).symm
  rw [h2]
  generalize (2 : Nat) ^ L = z at h1
  rw [w64 (by omega)]
  omega
set_option maxRecDepth 100000 in
set_option maxHeartbeats 8000000 in
theorem moore_ok (w : World) (A B : Option Addr) (c d : Nat) (ts : List (Int × Int)) (pick : List Bool) (h : kP.C w A ts.length ts) (hc : ts.length ≤ c) (k : Kd.bool.C w B pick.length pick) (hl : ts.length ≤ 64) (he : tasksE ts = 0) :
    Calls Try.prog 9 #[.slice A ts.length c, .slice B pick.length d] w fun e w' => e = .returned (.bool true) ∧ Below w.heap.size w w' := by
  have ha := Aside0.mk alive_any
  have d1 : decide ((64 : Int) < ts.length) = false := decide_eq_false (by omega)
  have hon := ontime_any w A c ts h
  have hpl := Kd.C_max k
  unfold OPost at hon
  rw [he] at hon
  have hT := TOK.of_E he
  have hall := once_all ts he
  have hdm : doneF ts = (mh ts (tord ts)).1 := by unfold doneF; rw [if_pos he]
  have hmo := moore_all hT
  have hms := fun p => moore_most hT p
  rw [← hdm] at hmo hms
  have hmem : ∀ x ∈ doneF ts, 0 ≤ x ∧ x < ts.length := fun x hx => (upto_mem _ x).1 (hall.mem_iff.1 (List.mem_append.2 (.inl hx)))
  obtain ⟨D, hD⟩ : ∃ z, z = doneF ts := ⟨_, rfl⟩
  obtain ⟨L, hL⟩ : ∃ z, z = lateF ts := ⟨_, rfl⟩
  rw [← hD] at hall hmo hms hmem hon
  rw [← hL] at hall hon
  have hlen : D.length + L.length = ts.length := by
    have := hall.length_eq
    rwa [List.length_append, upto_length] at this
  have hdl : D.length ≤ 64 ∧ L.length ≤ 64 ∧ D.length + L.length ≤ 64 := by omega
  obtain ⟨hdl1, hdl2, hdl3⟩ := hdl
  have HO := Aside0.mk hon
  have HT := Aside0.mk hT
  have HALL := Aside0.mk (And.intro hall (And.intro hmo.1 (And.intro hms hmem)))
  have HK := Aside0.mk (And.intro h (And.intro hc k))
  have HL := Aside0.mk hlen
  obtain ⟨AL, hal⟩ : ∃ z, z = D ++ L := ⟨_, rfl⟩
  have hall2 : AL.length ≤ 64 := by rw [hal, List.length_append]; omega
  have HAL := Aside0.mk hal
  clear hon hT hall hmo hms hmem hdm h hc k hlen he hD hL hal
  go_enter Try.func9, Try.ntmps9
  go_upto_region 4 with ((with_reducible refine HO.out.mono ?_); rintro e2 w2 ⟨A2, B2, n2, m2, c2, q2, rfl, hb2, hC2, hD2, hc2, hd2⟩; have H2 := Aside0.mk (And.intro hb2 (And.intro hC2 (And.intro hD2 (And.intro hc2 hd2)))); clear hb2 hC2 hD2 hc2 hd2)
  have hn2 := H2.out.2.1.1
  have hm2 := H2.out.2.2.1.1
  subst hn2
  subst hm2
  clear HO d1
  go_upto_region 8 with ((with_reducible refine gate_builtin (b := .append) (xs := #[.tmp 36, .tmp 37]) rfl ?_); at_builtin; refine Kd.R_append_rows (Kd.int .i64) (w0 := w2) w2.heap.size rfl (.tmp 36) (.tmp 37) 22 3 (.int .i64 0) 8 rfl Try.underlying22 info3' rfl (by decide) (by omega) (.slice none 0 0) [] D _ _ _ (fun _ => True) (fun _ => False) rfl rfl ?aO ?aR (fun _ _ h => h) (fun _ h => h.elim) ?aF ?aB ?aS ?aL ?_; (case aR => exact H2.out.2.1); (case aB => exact Below.refl _ _); (case aF => exact (fun _ _ => trivial)); (case aO => exact Kd.R_nil _ _ _ _ _); (case aS => exact Nat.le_refl _); (case aL => simp; omega); intro v3 w3 ho hb hg hat; have H3 := Aside0.mk (And.intro ho hb); clear ho hb hg hat)
  go_upto_region 9 with ((with_reducible refine gate_builtin (b := .append) (xs := #[.tmp 39, .tmp 40]) rfl ?_); at_builtin; refine Kd.R_append_rows (Kd.int .i64) (w0 := w2) w2.heap.size rfl (.tmp 39) (.tmp 40) 22 3 (.int .i64 0) 8 rfl Try.underlying22 info3' rfl (by decide) (by omega) v3 ([] ++ D) L _ _ _ (fun _ => True) (fun _ => False) rfl rfl ?aO ?aR (fun _ _ h => h) (fun _ h => h.elim) ?aF ?aB ?aS ?aL ?_; (case aR => exact Kd.C_below H2.out.2.2.1 H3.out.2); (case aB => exact H3.out.2); (case aF => exact (fun _ _ => trivial)); (case aO => exact H3.out.1); (case aS => exact (below_size H3.out.2)); (case aL => rw [List.nil_append]; omega); intro v4 w4 ho hb hg hat; rw [List.nil_append, ← HAL.out] at ho; have H4 := Aside0.mk (And.intro ho hb); clear ho hb hg hat)
  obtain ⟨A8, c8, e8⟩ := Kd.R_slice H4.out.1
  subst e8
  have hon := once_any w4 A8 c8 AL ts.length (Kd.R_reads' H4.out.1).2.2 (by omega)
  rw [decide_eq_true (by rw [HAL.out]; exact HALL.out.1)] at hon
  have hen := fun W (hW : Below w2.heap.size w2 W) => ends_any W A A2 c c2 ts D HT.out (Kd.C_below HK.out.1 (H2.out.1.trans (hW.mono (below_size H2.out.1)))) HK.out.2.1 (Kd.C_below H2.out.2.1 hW) H2.out.2.2.2.1 (by omega) HALL.out.2.2.2
  rw [HALL.out.2.1] at hen
  have HON := Aside0.mk hon
  have HEN := Aside0.mk hen
  have mk3 := print_make_of (P := Try.prog) 44 4 (.bool false) 1 Try.underlying44 info4 rfl (by decide) ts.length (by omega)
  clear hon hen
  go_upto_region 11 with (first | ((with_reducible refine HON.out.mono ?_); rintro e5 w5 ⟨rfl, hb5⟩; have H5 := Aside0.mk (below_step H4.out.2 hb5); clear hb5) | ((with_reducible refine (HEN.out _ H5.out).mono ?_); rintro e6 w6 ⟨rfl, hb6⟩; have H6 := Aside0.mk (below_step H5.out hb6); clear hb6))
  clear HON HEN H3 H5
  have HB6 := Aside0.mk (H2.out.1.trans (H6.out.mono (below_size H2.out.1)))
  have HKW := Aside0.mk (fun W (hW : Below w6.heap.size w6 W) => And.intro (Kd.C_below HK.out.1 (HB6.out.trans (hW.mono (below_size HB6.out)))) (And.intro HK.out.2.1 (Kd.C_below HK.out.2.2 (HB6.out.trans (hW.mono (below_size HB6.out))))))
  have HMS := Aside0.mk (fun (G : List Bool) (hG : G.length = ts.length) (hq : D.length < G.count true) => HALL.out.2.2.1 (chosen G) (by rw [chosen_count ts G hG]; exact hq))
  have HBY := Aside0.mk (fun W (hW : Below w6.heap.size w6 W) (g : Nat) (G : List Bool) (hG : G.length = ts.length) (hk : Blk W g (bls G) 4) => byDue_any W A (some ⟨g, 0, none⟩) c G.length ts G hl (HKW.out W hW).1 (HKW.out W hW).2.1 (hk.bools_C (by omega)) (Nat.le_refl _) hG)
  have HEN := Aside0.mk (fun W (hW : Below w6.heap.size w6 W) (C : Option Addr) (q : Nat) (G : List Bool) (hq : ((tord ts).filter (chosen G)).length ≤ q) (hC : (Kd.int .i64).C W C ((tord ts).filter (chosen G)).length ((tord ts).filter (chosen G))) => ends_any W A C c q ts _ HT.out (HKW.out W hW).1 (HKW.out W hW).2.1 hC hq (chosen_len hl G) (fun x hx => chosen_mem hx))
  clear H4 HALL HL HK H2
  have b1 : Blk (w6.alloc (.cells (madeCells #[.bool false] ts.length) 4)) w6.heap.size (bls (List.replicate ts.length false)) 4 := by rw [made_bls]; exact Blk.new _ _ _
  have B1 := Aside0.mk (And.intro b1 (below_alloc (Below.refl w6.heap.size w6) (.cells (madeCells #[.bool false] ts.length) 4)))
  clear b1
  go_upto_region 14 with fail
  obtain ⟨g, hg⟩ : ∃ z, z = w6.heap.size := ⟨_, rfl⟩
  obtain ⟨w7, hw7⟩ : ∃ z, z = w6.alloc (.cells (madeCells #[.bool false] ts.length) 4) := ⟨_, rfl⟩
  have B2 := B1.out
  rw [← hw7] at B2
  rw [← hw7, ← hg]
  have HB : Aside0 (Blk w7 g (bls (List.replicate ts.length false)) 4 ∧ Below w6.heap.size w6 w7) := ⟨⟨by rw [hg]; exact B2.1, B2.2⟩⟩
  have HG : Aside0 (w6.heap.size ≤ g) := ⟨by omega⟩
  clear hw7 B1 B2 hg
  go_loopw [10, 11] (fun v10 v11 wr => ∃ (G : List Bool) (i q : Nat), v10 = .int .i64 q ∧ v11 = .int .i64 i ∧ i ≤ ts.length ∧ q ≤ i ∧ Aside0 (G.length = ts.length ∧ q = G.count true ∧ ∀ j, i ≤ j → G.getD j false = false) ∧ Aside0 (Blk wr g (bls G) 4 ∧ Below w6.heap.size w6 wr)) (fun _ v _ => ts.length - (intOf v).toNat)
  case atStart =>
    refine ⟨List.replicate ts.length false, 0, 0, rfl, rfl, by omega, by omega, ⟨⟨by simp, by simp [List.count_replicate], fun j _ => ?_⟩⟩, HB⟩
    rw [List.getD_eq_getElem?_getD, List.getElem?_replicate]
    split <;> rfl
  case round =>
    clear HB
    obtain ⟨G, i, q, rfl, rfl, hi, hqi, HQ, H2⟩ := hrel
    go_upto_region 14 with fail
    go_cut [65] from 56 to 65 (fun a w3 => ∃ b : Bool, a = .bool b ∧ Aside0 (b = true ↔ i < ts.length ∧ i < pick.length) ∧ wr = w3)
    case first =>
      by_cases h1 : i < ts.length
      · have d1 : decide ((i : Int) < ts.length) = true := decide_eq_true (by omega)
        by_cases h2 : i < pick.length
        · have d2 : decide ((i : Int) < pick.length) = true := decide_eq_true (by omega)
          go_wp2_with fail
          go_meet
          case rel => exact ⟨true, rfl, ⟨by simp [h1, h2]⟩, rfl⟩
        · have d2 : decide ((i : Int) < pick.length) = false := decide_eq_false (by omega)
          go_wp2_with fail
          go_meet
          case rel => exact ⟨false, rfl, ⟨by simp [h2]⟩, rfl⟩
      · have d1 : decide ((i : Int) < ts.length) = false := decide_eq_false (by omega)
        go_wp2_with fail
        go_meet
        case rel => exact ⟨false, rfl, ⟨by simp [h1]⟩, rfl⟩
    case rest =>
    obtain ⟨b, rfl, Hb, rfl⟩ := hcut
    cases b with
    | true =>
      obtain ⟨hi1, hi2⟩ := Hb.out.1 rfl
      have hit : (i : Int) < ts.length := by omega
      have hip : (i : Int) < pick.length := by omega
      obtain ⟨_, _, hKB⟩ := HKW.out _ H2.out.2
      obtain ⟨ad, e1, g1⟩ := Kd.at_bool hKB (i : Int) (by omega) hip
      subst e1
      rw [Int.toNat_natCast] at g1
      have hgl : i < G.length := by rw [HQ.out.1]; exact hi1
      have c1 := H2.out.1.at_ (bls_get G hgl)
      have fr := H2.out.1.free i
      have hcp := fun b => count_put G i b hgl (HQ.out.2.2 i (Nat.le_refl _))
      obtain ⟨b, hb⟩ : ∃ z, z = rdOf false pick (i : Int) := ⟨_, rfl⟩
      rw [← hb] at g1
      have hB2 := H2.out.1.set i (.bool b)
      rw [bls_set] at hB2
      have HN : Aside0 (Blk (wr.setCell ⟨g, i, none⟩ (.bool b)) g (bls (G.set i b)) 4 ∧ Below w6.heap.size w6 (wr.setCell ⟨g, i, none⟩ (.bool b))) := ⟨⟨hB2, H2.out.2.setCell (by first | exact HG.out | omega) _⟩⟩
      have HN2 : Aside0 ((G.set i b).length = ts.length ∧ (G.set i b).count true = q + (if b = true then 1 else 0) ∧ ∀ j, i + 1 ≤ j → (G.set i b).getD j false = false) := ⟨⟨by rw [List.length_set]; exact HQ.out.1, by rw [hcp b, HQ.out.2.1], fun j hj => by
        rw [List.getD_eq_getElem?_getD, List.getElem?_set_ne (by omega), ← List.getD_eq_getElem?_getD]
        exact HQ.out.2.2 j (by omega)⟩⟩
      have c2 : (wr.setCell ⟨g, i, none⟩ (.bool b)).cell? ⟨g, i, none⟩ = some (.bool b) := by
        have := hB2.at_ (bls_get (G.set i b) (i := i) (by rw [List.length_set]; exact hgl))
        rwa [List.getD_eq_getElem?_getD, List.getElem?_set_self hgl] at this
      have C2 := Aside0.mk c2
      clear hb hB2 hcp hKB c2
      go_upto_region 17 with fail
      obtain ⟨w8, hw8⟩ : ∃ z, z = wr.setCell ⟨g, i, none⟩ (.bool b) := ⟨_, rfl⟩
      have HN3 := HN.out
      have c2 := C2.out
      rw [← hw8] at HN3 c2
      rw [← hw8]
      have HN4 := Aside0.mk HN3
      clear HN3 hw8 HN C2 c1 fr g1
      cases b with
      | true =>
        go_wp2_with fail
        go_roundw
        case rel => exact ⟨G.set i true, i + 1, q + 1, by go_num, by go_num, by omega, by omega, ⟨HN2.out.1, by rw [HN2.out.2.1]; rfl, HN2.out.2.2⟩, HN4⟩
        case measure => show ts.length - ((i : Int) + 1).toNat < ts.length - (i : Int).toNat; omega
      | false =>
        go_wp2_with fail
        go_roundw
        case rel => exact ⟨G.set i false, i + 1, q, by go_num, by go_num, by omega, by omega, ⟨HN2.out.1, by rw [HN2.out.2.1]; rfl, HN2.out.2.2⟩, HN4⟩
        case measure => show ts.length - ((i : Int) + 1).toNat < ts.length - (i : Int).toNat; omega
    | false =>
      go_upto_region 19 with fail
      go_cut [91] from 81 to 91 (fun a w3 => a = .bool false ∧ Aside0 (Below wr.heap.size wr w3))
      case first =>
        by_cases hq : D.length < q
        · have hd1 : decide ((D.length : Int) < q) = true := decide_eq_true (by omega)
          have hby := HBY.out wr H2.out.2 g G HQ.out.1 H2.out.1
          have hf := HMS.out G HQ.out.1 (by rw [← HQ.out.2.1]; exact hq)
          have hen := fun W hW C q2 hq2 hC => HEN.out W hW C q2 G hq2 hC
          obtain ⟨F, hF⟩ : ∃ z, z = (tord ts).filter (chosen G) := ⟨_, rfl⟩
          rw [HQ.out.1, ← hF] at hby
          rw [← hF] at hf hen
          rw [hf] at hen
          have HBY2 := Aside0.mk hby
          have HEN2 := Aside0.mk hen
          clear hby hen hf hF
          go_wp2_with (first | ((with_reducible refine HBY2.out.mono ?_); rintro e8 w8 ⟨C8, q8, rfl, hq8, hC8, hb8⟩; have H8 := Aside0.mk (And.intro hq8 (And.intro hC8 hb8)); clear hq8 hC8 hb8) | ((with_reducible refine (HEN2.out _ (below_step H2.out.2 H8.out.2.2) _ _ H8.out.1 H8.out.2.1).mono ?_); rintro e9 w9 ⟨rfl, hb9⟩; have H9 := Aside0.mk hb9; clear hb9))
          go_meet
          case rel => exact ⟨rfl, ⟨below_step H8.out.2.2 H9.out⟩⟩
        · have hd1 : decide ((D.length : Int) < q) = false := decide_eq_false (by omega)
          go_wp2_with fail
          go_meet
          case rel => exact ⟨rfl, ⟨Below.refl _ _⟩⟩
      case rest =>
      obtain ⟨rfl, HC⟩ := hcut
      have HB := Aside0.mk (below_step H2.out.2 HC.out)
      clear HC H2 HQ Hb
      go_upto_region 22 with fail
      clear hqi hi
      go_loopw [12] (fun v12 wr => ∃ s : Nat, v12 = .int .i64 s ∧ s ≤ 1024 ∧ Aside0 (Below w6.heap.size w6 wr)) (fun v _ => 1024 - (intOf v).toNat)
      case atStart => exact ⟨0, rfl, by omega, HB⟩
      case round =>
        clear HB
        obtain ⟨s, rfl, hs, HB⟩ := hrel
        go_upto_region 22 with fail
        go_cut [101] from 92 to 101 (fun a w3 => ∃ b : Bool, a = .bool b ∧ Aside0 (b = true → s < 1024) ∧ wr = w3)
        case first =>
          by_cases h10 : ts.length ≤ 10
          · have hd1 : decide ((ts.length : Int) ≤ 10) = true := decide_eq_true (by omega)
            go_wp2_with fail
            go_meet
            case rel =>
              refine ⟨_, rfl, ⟨fun hb => ?_⟩, rfl⟩
              have h1 := of_decide_eq_true hb
              have h2 := pow10 ts.length (by omega)
              omega
          · have hd1 : decide ((ts.length : Int) ≤ 10) = false := decide_eq_false (by omega)
            go_wp2_with fail
            go_meet
            case rel => exact ⟨false, rfl, ⟨fun h => by cases h⟩, rfl⟩
        case rest =>
        obtain ⟨b, rfl, Hb, rfl⟩ := hcut
        cases b with
        | false =>
          go_wp2_with ((with_reducible refine (ha.out _).mono ?_); rintro e8 w8 ⟨rfl, hb8⟩; have H8 := Aside0.mk (HB6.out.trans ((below_step HB.out hb8).mono (below_size HB6.out))); clear hb8)
          go_ret
          exact ⟨rfl, H8.out⟩
        | true =>
          have hs2 := Hb.out rfl
          clear Hb
          have b1 : Blk (wr.alloc (.cells (madeCells #[.bool false] ts.length) 4)) wr.heap.size (bls (List.replicate ts.length false)) 4 := by rw [made_bls]; exact Blk.new _ _ _
          have B1 := Aside0.mk (And.intro b1 (below_alloc HB.out (.cells (madeCells #[.bool false] ts.length) 4)))
          have hsz := below_size HB.out
          clear b1
          go_upto_region 27 with fail
          obtain ⟨g2, hg2⟩ : ∃ z, z = wr.heap.size := ⟨_, rfl⟩
          obtain ⟨w9, hw9⟩ : ∃ z, z = wr.alloc (.cells (madeCells #[.bool false] ts.length) 4) := ⟨_, rfl⟩
          have B2' := B1.out
          rw [← hw9, ← hg2] at B2'
          rw [← hw9, ← hg2]
          have HB9 := Aside0.mk B2'
          have HG2 : Aside0 (w6.heap.size ≤ g2) := ⟨by omega⟩
          clear hw9 B1 B2' hg2 hsz HB
          go_loopw [10, 14] (fun v10 v14 wr => ∃ (G : List Bool) (j q : Nat), v10 = .int .i64 q ∧ v14 = .int .i64 j ∧ j ≤ ts.length ∧ q ≤ j ∧ Aside0 (G.length = ts.length ∧ q = G.count true ∧ ∀ t, j ≤ t → G.getD t false = false) ∧ Aside0 (Blk wr g2 (bls G) 4 ∧ Below w6.heap.size w6 wr)) (fun _ v _ => ts.length - (intOf v).toNat)
          case atStart =>
            refine ⟨List.replicate ts.length false, 0, 0, rfl, rfl, by omega, by omega, ⟨⟨by simp, by simp [List.count_replicate], fun j _ => ?_⟩⟩, HB9⟩
            rw [List.getD_eq_getElem?_getD, List.getElem?_replicate]
            split <;> rfl
          case round =>
            clear HB9
            obtain ⟨G, j, q, rfl, rfl, hj, hqj, HQ, H2⟩ := hrel
            by_cases hjl : j < ts.length
            · have hjli : (j : Int) < ts.length := by omega
              have hgl : j < G.length := by rw [HQ.out.1]; exact hjl
              have c1 := H2.out.1.at_ (bls_get G hgl)
              have fr := H2.out.1.free j
              go_upto_region 29 with fail
              go_cut [] from 113 to 120 (fun w3 => ∃ b : Bool, w3 = wr.setCell ⟨g2, j, none⟩ (.bool b))
              case first =>
                go_wp2_with fail
                go_meet
                case rel => exact ⟨_, rfl⟩
              case rest =>
              obtain ⟨b, hw⟩ := hcut
              have hcp := count_put G j b hgl (HQ.out.2.2 j (Nat.le_refl _))
              have hB2 := H2.out.1.set j (.bool b)
              rw [bls_set, ← hw] at hB2
              have HN : Aside0 (Blk wc g2 (bls (G.set j b)) 4 ∧ Below w6.heap.size w6 wc) := ⟨hB2, by rw [hw]; exact H2.out.2.setCell (by first | exact HG2.out | omega) _⟩
              have HN2 : Aside0 ((G.set j b).length = ts.length ∧ (G.set j b).count true = q + (if b = true then 1 else 0) ∧ ∀ t, j + 1 ≤ t → (G.set j b).getD t false = false) := ⟨⟨by rw [List.length_set]; exact HQ.out.1, by rw [hcp, HQ.out.2.1], fun t ht => by
                rw [List.getD_eq_getElem?_getD, List.getElem?_set_ne (by omega), ← List.getD_eq_getElem?_getD]
                exact HQ.out.2.2 t (by omega)⟩⟩
              have c2 : wc.cell? ⟨g2, j, none⟩ = some (.bool b) := by
                have := hB2.at_ (bls_get (G.set j b) (i := j) (by rw [List.length_set]; exact hgl))
                rwa [List.getD_eq_getElem?_getD, List.getElem?_set_self hgl] at this
              clear hw hcp hB2 c1 fr H2 HQ
              cases b with
              | true =>
                go_wp2_with fail
                go_roundw
                case rel => exact ⟨G.set j true, j + 1, q + 1, by go_num, by go_num, by omega, by omega, ⟨HN2.out.1, by rw [HN2.out.2.1]; rfl, HN2.out.2.2⟩, HN⟩
                case measure => show ts.length - ((j : Int) + 1).toNat < ts.length - (j : Int).toNat; omega
              | false =>
                go_wp2_with fail
                go_roundw
                case rel => exact ⟨G.set j false, j + 1, q, by go_num, by go_num, by omega, by omega, ⟨HN2.out.1, by rw [HN2.out.2.1]; rfl, HN2.out.2.2⟩, HN⟩
                case measure => show ts.length - ((j : Int) + 1).toNat < ts.length - (j : Int).toNat; omega
            · have hjli : ¬ (j : Int) < ts.length := by omega
              go_upto_region 32 with fail
              go_cut [137] from 127 to 137 (fun a w3 => a = .bool false ∧ Aside0 (Below wr.heap.size wr w3))
              case first =>
                by_cases hq : D.length < q
                · have hd1 : decide ((D.length : Int) < q) = true := decide_eq_true (by omega)
                  have hby := HBY.out wr H2.out.2 g2 G HQ.out.1 H2.out.1
                  have hf := HMS.out G HQ.out.1 (by rw [← HQ.out.2.1]; exact hq)
                  have hen := fun W hW C q2 hq2 hC => HEN.out W hW C q2 G hq2 hC
                  obtain ⟨F, hF⟩ : ∃ z, z = (tord ts).filter (chosen G) := ⟨_, rfl⟩
                  rw [HQ.out.1, ← hF] at hby
                  rw [← hF] at hf hen
                  rw [hf] at hen
                  have HBY2 := Aside0.mk hby
                  have HEN2 := Aside0.mk hen
                  clear hby hen hf hF
                  go_wp2_with (first | ((with_reducible refine HBY2.out.mono ?_); rintro e8 w8 ⟨C8, q8, rfl, hq8, hC8, hb8⟩; have H8 := Aside0.mk (And.intro hq8 (And.intro hC8 hb8)); clear hq8 hC8 hb8) | ((with_reducible refine (HEN2.out _ (below_step H2.out.2 H8.out.2.2) _ _ H8.out.1 H8.out.2.1).mono ?_); rintro e9 w9 ⟨rfl, hb9⟩; have H9 := Aside0.mk hb9; clear hb9))
                  go_meet
                  case rel => exact ⟨rfl, ⟨below_step H8.out.2.2 H9.out⟩⟩
                · have hd1 : decide ((D.length : Int) < q) = false := decide_eq_false (by omega)
                  go_wp2_with fail
                  go_meet
                  case rel => exact ⟨rfl, ⟨Below.refl _ _⟩⟩
              case rest =>
              obtain ⟨rfl, HC⟩ := hcut
              have HB := Aside0.mk (below_step H2.out.2 HC.out)
              clear HC H2 HQ
              go_wp2_with fail
              go_roundw
              case rel => exact ⟨s + 1, by go_num, by omega, HB⟩
              case measure => show 1024 - ((s : Int) + 1).toNat < 1024 - (s : Int).toNat; omega
theorem pmoore_any (w : World) (A B : Option Addr) (c d : Nat) (ts : List (Int × Int)) (pick : List Bool) (h : kP.C w A ts.length ts) (hc : ts.length ≤ c) (k : Kd.bool.C w B pick.length pick) :
    Calls Try.prog 9 #[.slice A ts.length c, .slice B pick.length d] w fun e w' => e = .returned (.bool true) ∧ Below w.heap.size w w' := by
  by_cases hh : 64 < ts.length
  · exact moore_far w A B _ c _ d hh
  by_cases he : tasksE ts = 0
  · exact moore_ok w A B c d ts pick h hc k (by omega) he
  · exact moore_bad w A B _ c d ts h (by omega) he
end Go.Proofs.Ytnoocdobldchoaa

/- What ClassingCovers answers: its walk. -/
import Derived.Test.YthkfahkkcjagdaaV3
import Derived.Test.YthkfahkkcjagdaaWLast
namespace Go.Proofs.Ythkfahkkcjagdaa
open Go.RowKit Go.Proofs.YthkfahkkcjagdaaW.PrintWords Go.Proofs.YthkfahkkcjagdaaW.PrintMore Go.Proofs.YthkfahkkcjagdaaW.PrintLast
attribute [local go_sem] max2_int min2_int
set_option linter.unusedSimpArgs false

theorem info4b : (Try.prog.info? 4).map (fun i => (i.zero, i.size, i.bytes)) = some (some (.bool false), 1, 1) := by kernel_rfl
theorem made_bools (n : Nat) : madeCells #[.bool false] n = (List.replicate n (Value.bool false)).toArray := by
  apply Array.toList_inj.1
  rw [toList_madeCells_one]
theorem seen_zero (ord : List Int) (n : Nat) : bools (seenL ord 0 n) = List.replicate n (.bool false) := by
  apply List.ext_getElem?
  intro i
  by_cases h : i < n
  · rw [seen_get h]; simp [h]
  · rw [List.getElem?_eq_none (by simp [bools, seenL]; omega), List.getElem?_eq_none (by simp; omega)]
theorem cell_to {w5 w7 wr : World} {gs : Nat} (hb : Below w5.heap.size w5 w7) (k : Kp (fun k => k = gs) w7 wr) (hg : w5.heap.size ≤ gs) {a : Addr} {v : Value} (h : w5.cell? a = some v) : wr.cell? a = some v :=
  k.cell (cell_below hb h) (fun e => by have := World.block_lt_of_cell? w5 a h; omega)
theorem take_sumN (f : (Nat × Nat × Nat × Nat) → Nat) (ls : List (Nat × Nat × Nat × Nat)) (i : Nat) (l : Nat × Nat × Nat × Nat) (h : ls[i]? = some l) : ((ls.take (i + 1)).map f).sum = ((ls.take i).map f).sum + f l := by
  have hi := (List.getElem?_eq_some_iff.1 h).1
  have e := (List.getElem?_eq_some_iff.1 h).2
  rw [List.take_succ_eq_append_getElem hi, List.map_append, List.sum_append, e]
  simp
def lineC (s : Nat → Fl) (x : Nat × Nat × Nat × Nat) : Int := costD s x.2.2.1 (cen s x.2.2.1 x.2.2.2) x.2.2.2
/-- What is known of each line of a plan in memory, and of all. -/
structure PlanK (s : Nat → Fl) (least p : Int) (n : Nat) (k : Int) (ls : List (Nat × Nat × Nat × Nat)) : Prop where
  at_ : ∀ j l, ls[j]? = some l → l.2.2.1 = ((ls.take j).map (·.2.2.2)).sum ∧ 1 ≤ l.2.2.2 ∧ l.2.2.1 + l.2.2.2 ≤ n ∧ okR s p l.2.2.1 l.2.2.2 = true ∧ least ≤ massD s l.2.2.1 l.2.2.2 ∧ (erowF s p n l.2.2.1).getD (l.2.2.1 + l.2.2.2) 0 = cen s l.2.2.1 l.2.2.2 ∧ (crowF s least p n l.2.2.1).getD (l.2.2.1 + l.2.2.2) 0 = lineC s l
  sum : (ls.map (·.2.2.2)).sum = n
  cost : (ls.map (lineC s)).sum = k
theorem planK {s : Nat → Fl} {least p : Int} {n K : Nat} {ls : List (Nat × Nat × Nat × Nat)} (hr : restO s least p n K 0 ≠ none) (hm : ls.map (fun x => (x.2.2.1, x.2.2.2)) = planF s least p n K 0) : PlanK s least p n (pE (restO s least p n K 0)) ls := by
  refine ⟨fun j l hl => ?_, ?_, ?_⟩
  · have h1 : (planF s least p n K 0)[j]? = some (l.2.2.1, l.2.2.2) := by rw [← hm, List.getElem?_map, hl]; rfl
    have h2 := plan_at K 0 j _ h1
    have h3 := planF_in K 0 (Nat.zero_le _) hr _ (List.mem_of_getElem? h1)
    have h4 := line_cells (s := s) (least := least) (p := p) (n := n) h3.2.1 h3.1 h3.2.2
    refine ⟨?_, h3.2.1, h3.1, h4.1, h4.2.1, h4.2.2.1, h4.2.2.2.1⟩
    rw [← hm, ← List.map_take, List.map_map, Nat.zero_add] at h2
    exact h2
  · have h1 := plan_len K 0 (Nat.zero_le _) hr
    rw [← hm, List.map_map] at h1
    exact h1
  · have h1 := plan_cost K 0 (Nat.zero_le _) hr
    rw [h1, ← hm, List.map_map]
    rfl
theorem PlanK.le {s : Nat → Fl} {least p : Int} {n : Nat} {k : Int} {ls : List (Nat × Nat × Nat × Nat)} (h : PlanK s least p n k ls) (j : Nat) : ((ls.take j).map (·.2.2.2)).sum ≤ n := by
  rw [← h.sum]
  conv => rhs; rw [← List.take_append_drop j ls]
  rw [List.map_append, List.sum_append]
  omega
theorem lineC_bd {s : Nat → Fl} {n : Nat} (h : SOK s n) (hn : n ≤ 128) {x : Nat × Nat × Nat × Nat} (h1 : 1 ≤ x.2.2.2) (h2 : x.2.2.1 + x.2.2.2 ≤ n) : (1 ≤ cen s x.2.2.1 x.2.2.2 ∧ cen s x.2.2.1 x.2.2.2 ≤ 10000) ∧ 0 ≤ lineC s x ∧ lineC s x ≤ 1374252095766528 := by
  have h3 := (med_spec h h1 h2).2.2
  have h4 := (h (x.2.2.1 + med s x.2.2.1 x.2.2.2) (by omega)).1
  have h5 := costD_bd h x.2.2.1 h4 x.2.2.2 h2
  refine ⟨h4, h5.1, ?_⟩
  have h6 := h5.2
  unfold lineC cen
  omega

set_option maxHeartbeats 16000000 in
set_option maxRecDepth 100000 in
theorem covers_any (w : World) (A : Option Addr) (n c : Nat) (fs : List Fl) (hn : fs.length = n) (h : kF.C w A n fs) (hk : KOK fs) (l least p cx : Int) :
    Calls Try.prog 3 #[.slice A n c, .agg #[.int .i64 l, .int .i64 least, .int .i64 p], .int .i64 cx] w fun e w' => e = .returned (.bool true) ∧ Below w.heap.size w w' := by
  have hmax := Kd.C_max h
  have b2 := below_alloc (Below.refl w.heap.size w) (.cells #[.int .i64 l, .int .i64 least, .int .i64 p] 24)
  have q2 := Blk.new w [.int .i64 l, .int .i64 least, .int .i64 p] 24
  have s0 := q2.at_ (i := 0) rfl
  have s1 := q2.at_ (i := 1) rfl
  have s2 := q2.at_ (i := 2) rfl
  have HFW := Aside0.mk (fun W => few_any W A n c hmax)
  have HAL := Aside0.mk alive_any
  have hli := lines_full _ A c fs (by rw [hn]; exact Kd.C_below h b2) hk l least p
  rw [hn] at hli
  have HLI := Aside0.mk hli
  have H2 := Aside0.mk (And.intro b2 q2)
  have HC := Aside0.mk (And.intro h (And.intro hk hn))
  clear h hk hn b2 q2 hli
  by_cases h140 : (n : Int) ≤ 140
  · have hd : decide ((n : Int) ≤ 140) = true := decide_eq_true h140
    rw [hd] at HFW
    go_enter Try.func3, Try.ntmps3
    go_upto_region 4 with (first | ((with_reducible refine (HFW.out _).mono ?_); rintro e5 w5 ⟨rfl, rfl⟩) | ((with_reducible refine HLI.out.mono ?_); rintro e5 w5 ⟨v5, k5, x5, rfl, hb5, h51⟩; have H5 := Aside0.mk (And.intro (below_step H2.out.1 hb5) (And.intro (H2.out.2.below hb5) h51)); clear hb5 h51))
    clear s0 s1 s2
    by_cases hx : x5 = 0
    · subst hx
      obtain ⟨hE, K0, ls, hr, ⟨hk5, hK0⟩, hp, hm⟩ := H5.out.2.2 rfl
      obtain ⟨B, cap0, hv, hcap, hget⟩ := hp.at_
      have hpf := hp.f
      rw [← HC.out.2.2] at hr hm hk5
      have hall := errE_all hE
      have hn128 : n ≤ 128 := by rw [← HC.out.2.2]; exact hall.1
      have hl16 : ls.length ≤ 16 := by
        have e1 := congrArg List.length hm
        rw [List.length_map, planF_len] at e1
        have := (errE_spec hE).1
        omega
      have hSO := ordF_SOK hall.2
      have hSR := ordF_sorted HC.out.2.1
      have hPK := planK hr hm
      rw [← hk5, HC.out.2.2] at hPK
      rw [HC.out.2.2] at hSO hSR
      have HP := Aside0.mk (And.intro hPK (And.intro hget (And.intro hSO (And.intro hSR hpf))))
      have HALL := Aside0.mk hall.2
      have HKT := Aside0.mk hPK.cost
      have hb5 := H5.out.1
      have hq5 := H5.out.2.1
      clear hE hr hp hm hget hall hK0 hSO hSR hPK hk5 hpf
      subst hv
      obtain ⟨m, hm⟩ : ∃ z, z = ls.length := ⟨_, rfl⟩
      rw [← hm] at hcap hl16 ⊢
      have HML := Aside0.mk hm; clear hm
      have HB5 := Aside0.mk (And.intro hb5 hq5)
      have mk := print_make_of (P := Try.prog) 31 4 (.bool false) 1 Try.underlying31 info4b rfl (by decide) n (by omega)
      go_upto_region 7 with fail
      have b7 := below_alloc (Below.refl w5.heap.size w5) (.cells (madeCells #[.bool false] n) 4)
      have q7 : Blk (w5.alloc (.cells (List.replicate n (Value.bool false)).toArray 4)) w5.heap.size (bools (seenL (ordF fs) 0 n)) 4 := by rw [seen_zero]; exact Blk.new w5 _ 4
      rw [made_bools] at b7 ⊢
      generalize (w5.alloc (.cells (List.replicate n (Value.bool false)).toArray 4)) = w7 at q7 b7 ⊢
      obtain ⟨gs, hgs⟩ : ∃ z, z = w5.heap.size := ⟨_, rfl⟩
      rw [← hgs] at q7 ⊢
      obtain ⟨b4, hb4⟩ : ∃ z, z = w.heap.size := ⟨_, rfl⟩
      rw [← hb4] at hq5 ⊢
      have HGS := Aside0.mk (And.intro hgs (And.intro hb4 (And.intro b7 (And.intro q7 hq5))))
      clear hgs hb4 b7 q7 hb5 hq5 mk
      go_wp2_with fail
      go_loopw [11, 12, 13] (fun v11 v12 v13 wr => ∃ (j o t : Int), v11 = .int .i64 o ∧ v12 = .int .i64 t ∧ v13 = .int .i64 j ∧ 0 ≤ j ∧ j ≤ m ∧ (0 ≤ o ∧ o ≤ 128) ∧ (0 ≤ t ∧ t ≤ j * 1374252095766528) ∧ Aside0 (o = (((ls.take j.toNat).map (·.2.2.2)).sum : Nat) ∧ t = ((ls.take j.toNat).map (lineC (sF fs (ordF fs)))).sum) ∧ Aside0 (Kp (fun k => k = gs) w7 wr ∧ Blk wr gs (bools (seenL (ordF fs) o.toNat n)) 4)) (fun _ _ v13 _ => m - (intOf v13).toNat)
      case atStart => exact ⟨0, 0, 0, rfl, rfl, rfl, by omega, by omega, by omega, by omega, ⟨by simp, by simp⟩, ⟨Kp.refl _ _, HGS.out.2.2.2.1⟩⟩
      case round =>
        obtain ⟨j, o, t, rfl, rfl, rfl, hj0, hj, ⟨ho0, ho1⟩, ⟨ht0, ht1⟩, HX, HW⟩ := hrel
        have hK7 := HW.out.1
        by_cases hjt : j < m
        · obtain ⟨ad, x, eB, hl, g0, g1, g2, g3, g4, g5, g6, g7⟩ := HP.out.2.1 j hj0 (by rw [← HML.out]; exact hjt)
          subst eB
          obtain ⟨y1, y2, y3, y4, y5, y6, y7⟩ := HP.out.1.at_ _ _ hl
          have hcb := lineC_bd HP.out.2.2.1 hn128 (x := x) y2 y3
          have hcen := cen_best HP.out.2.2.1 HP.out.2.2.2.1 (by omega) y3 y4 cx
          have hfr := HP.out.2.2.2.2 _ (List.mem_of_getElem? hl)
          have hn1 := take_sumN (·.2.2.2) ls j.toNat x hl
          have hn2 := take_sum (lineC (sF fs (ordF fs))) ls j.toNat x hl
          have hle := HP.out.1.le (j.toNat + 1)
          rw [hn1] at hle
          rw [y6] at g6
          rw [y7] at g7
          obtain ⟨g, cap, i, d⟩ := x
          dsimp only at y1 y2 y3 y4 y5 y6 y7 hcb hcen hfr hn1 hn2 hle g0 g1 g2 g3 g4 g5 g6 g7
          have hoi : o = i := by rw [HX.out.1, y1]
          have HN : Aside0 (o + d = (((ls.take (j + 1).toNat).map (·.2.2.2)).sum : Nat) ∧ t + lineC (sF fs (ordF fs)) (g, cap, i, d) = ((ls.take (j + 1).toNat).map (lineC (sF fs (ordF fs)))).sum) := ⟨by
            rw [show (j + 1).toNat = j.toNat + 1 by omega, hn1, HX.out.1]; omega, by
            rw [show (j + 1).toNat = j.toNat + 1 by omega, hn2, HX.out.2]⟩
          have hod : o + d ≤ 128 := by omega
          have hoN : o.toNat = i := by omega
          have hW2 : Blk wr gs (bools (seenL (ordF fs) i n)) 4 := by have := HW.out.2; rwa [hoN] at this
          have hCF : ∀ W, Kp (fun k => k = gs) w7 W → kF.C W A n fs := fun W hW => CF_kp (Kd.C_below (Kd.C_below HC.out.1 HB5.out.1) HGS.out.2.2.1) hW (fun hp ad e => ⟨CF_lt (Kd.C_below (Kd.C_below HC.out.1 HB5.out.1) HGS.out.2.2.1) hp ad e, by
            have h1 := CF_lt HC.out.1 hp ad e
            have h2 := HB5.out.1.size
            show ¬ ad.block = gs
            rw [HGS.out.1]; omega⟩)
          have hRF : ∀ W, Kp (fun k => k = gs) w7 W → (Kd.int .i64).C W (some ⟨g, 0, none⟩) d (((ordF fs).drop i).take d) := fun W hW => by
            have h1 : (Kd.int .i64).C w5 (some ⟨g, 0, none⟩) d (((ordF fs).drop i).take d) := own_ints_C hfr (by rw [List.length_take, List.length_drop, ordF_length, HC.out.2.2]; omega) (by omega)
            exact C_kp (Kd.C_below h1 HGS.out.2.2.1) hW (fun hp ad e => ⟨C_lt (Kd.C_below h1 HGS.out.2.2.1) hp ad e, by
              have h2 := C_lt h1 hp ad e
              show ¬ ad.block = gs
              rw [HGS.out.1]; omega⟩)
          have hgg : g ≠ gs := by
            have h1 : (Kd.int .i64).C w5 (some ⟨g, 0, none⟩) d (((ordF fs).drop i).take d) := own_ints_C hfr (by rw [List.length_take, List.length_drop, ordF_length, HC.out.2.2]; omega) (by omega)
            have h2 := C_lt h1 (by omega) _ rfl
            show g ≠ gs
            have h3 : g < w5.heap.size := h2
            rw [HGS.out.1]; omega
          have hgA : ∀ ad, A = some ad → ad.block ≠ gs := fun ad e => by
            have h1 := CF_lt HC.out.1 (show 0 < n by omega) ad e
            have h2 := HB5.out.1.size
            rw [HGS.out.1]; omega
          have hgsz : w5.heap.size ≤ gs := Nat.le_of_eq HGS.out.1.symm
          have hS0 : ∀ W, Kp (fun k => k = gs) w7 W → _ := fun W hW => And.intro (cell_to HGS.out.2.2.1 hW hgsz g0) (And.intro (cell_to HGS.out.2.2.1 hW hgsz g1) (And.intro (cell_to HGS.out.2.2.1 hW hgsz g2) (And.intro (cell_to HGS.out.2.2.1 hW hgsz g3) (And.intro (cell_to HGS.out.2.2.1 hW hgsz g4) (And.intro (cell_to HGS.out.2.2.1 hW hgsz g5) (And.intro (cell_to HGS.out.2.2.1 hW hgsz g6) (And.intro (cell_to HGS.out.2.2.1 hW hgsz g7) (And.intro (cell_to HGS.out.2.2.1 hW hgsz (HGS.out.2.2.2.2.at_ (i := 0) rfl)) (And.intro (cell_to HGS.out.2.2.1 hW hgsz (HGS.out.2.2.2.2.at_ (i := 1) rfl)) (cell_to HGS.out.2.2.1 hW hgsz (HGS.out.2.2.2.2.at_ (i := 2) rfl)))))))))))
          have hho := holds_any wr.drew A n c fs HC.out.2.2 (hCF _ hK7.drew) HC.out.2.1 HALL.out hn128 l least p i d g cap gs y2 y3 y4 y5 (hRF _ hK7.drew) hW2.drew hgA hgg (cen (sF fs (ordF fs)) i d) (lineC (sF fs (ordF fs)) (g, cap, i, d)) (by omega) rfl
          have hsp := fun (W : World) (hW : Kp (fun k => k = gs) w7 W) (hcx : 0 ≤ cx ∧ cx ≤ 20000) => spent_any W A (some ⟨g, 0, none⟩) n c d cap fs (((ordF fs).drop i).take d) cx (sF fs (ordF fs) i).k0 (sF fs (ordF fs) i).k1 (sF fs (ordF fs) i).k2 (sF fs (ordF fs) i).k3 (massD (sF fs (ordF fs)) i d) (cen (sF fs (ordF fs)) i d) (lineC (sF fs (ordF fs)) (g, cap, i, d)) (hCF W hW) (hRF W hW) (fun z hz => by
            have := ordF_mem (List.mem_of_mem_drop (List.mem_of_mem_take hz))
            rw [HC.out.2.2] at this; exact this) HALL.out HC.out.2.2 (by omega) hcx
          have hcs : costD (fun k => rdF fs (rd (((ordF fs).drop i).take d) k)) 0 cx d = costD (sF fs (ordF fs)) i cx d := costD_congr d fun k hk => by rw [Nat.zero_add, run_get _ hk]; rfl
          rw [hcs] at hsp
          obtain ⟨sv, hsv⟩ : ∃ z, z = costD (sF fs (ordF fs)) i cx d := ⟨_, rfl⟩
          have hco : lineC (sF fs (ordF fs)) (g, cap, i, d) ≤ sv := by rw [hsv]; exact hcen
          rw [← hsv] at hsp
          obtain ⟨k0, hk0⟩ : ∃ z, z = (sF fs (ordF fs) i).k0 := ⟨_, rfl⟩
          obtain ⟨k1, hk1⟩ : ∃ z, z = (sF fs (ordF fs) i).k1 := ⟨_, rfl⟩
          obtain ⟨k2, hk2⟩ : ∃ z, z = (sF fs (ordF fs) i).k2 := ⟨_, rfl⟩
          obtain ⟨k3, hk3⟩ : ∃ z, z = (sF fs (ordF fs) i).k3 := ⟨_, rfl⟩
          obtain ⟨M, hM⟩ : ∃ z, z = massD (sF fs (ordF fs)) i d := ⟨_, rfl⟩
          obtain ⟨ce, hce⟩ : ∃ z, z = cen (sF fs (ordF fs)) i d := ⟨_, rfl⟩
          obtain ⟨co, hcc⟩ : ∃ z, z = lineC (sF fs (ordF fs)) (g, cap, i, d) := ⟨_, rfl⟩
          rw [← hk0, ← hk1, ← hk2, ← hk3, ← hM, ← hce, ← hcc] at hho hsp
          rw [← hk0, ← hk1, ← hk2, ← hk3, ← hM, ← hce, ← hcc] at hS0
          rw [← hcc] at hco HN hcb
          have HHO := Aside0.mk hho
          have HSP := Aside0.mk hsp
          have HS0 := Aside0.mk hS0
          have HST : Aside0 ((((ls.take (j + 1).toNat).map (·.2.2.2)).sum : Nat) = ((i + d : Nat) : Int)) := ⟨by rw [← HN.out.1]; omega⟩
          obtain ⟨_, hc0, hc1⟩ := hcb
          clear hk0 hk1 hk2 hk3 hM hce hcc hsv hcs hho hsp hS0 hgA hgg hgsz hRF hCF hW2 hoN y1 y2 y3 y4 y5 y6 y7 hl hfr hn1 hn2 hle g0 g1 g2 g3 g4 g5 g6 g7 hK7 hoi hcen HX
          have hsvn : decide (sv < co) = false := decide_eq_false (by omega)
          have hsvm : ¬ sv < co := by omega
          have hjc : j ≤ 16 := by omega
          have hjm : (j : Int) < m := hjt
          by_cases hA : cx < 0
          · have hcA : decide (0 ≤ cx) = false := decide_eq_false (by omega)
            have hcA2 : ¬ 0 ≤ cx := by omega
            go_upto_region 11 with fail
            refine start_ (n := 32) (S := (fun W => W.cell? (ad.add (j.toNat * 8)) = some (.int .u8 k0) ∧ W.cell? ⟨(ad.add (j.toNat * 8)).block, (ad.add (j.toNat * 8)).off + 1, none⟩ = some (.int .u8 k1) ∧ W.cell? ⟨(ad.add (j.toNat * 8)).block, (ad.add (j.toNat * 8)).off + 2, none⟩ = some (.int .u8 k2) ∧ W.cell? ⟨(ad.add (j.toNat * 8)).block, (ad.add (j.toNat * 8)).off + 3, none⟩ = some (.int .u8 k3) ∧ W.cell? ⟨(ad.add (j.toNat * 8)).block, (ad.add (j.toNat * 8)).off + 4, none⟩ = some (.slice (some ⟨g, 0, none⟩) d cap) ∧ W.cell? ⟨(ad.add (j.toNat * 8)).block, (ad.add (j.toNat * 8)).off + 5, none⟩ = some (.int .i64 M) ∧ W.cell? ⟨(ad.add (j.toNat * 8)).block, (ad.add (j.toNat * 8)).off + 6, none⟩ = some (.int .i64 ce) ∧ W.cell? ⟨(ad.add (j.toNat * 8)).block, (ad.add (j.toNat * 8)).off + 7, none⟩ = some (.int .i64 co) ∧ W.cell? ⟨b4, 0, none⟩ = some (.int .i64 l) ∧ W.cell? ⟨b4, 1, none⟩ = some (.int .i64 least) ∧ W.cell? ⟨b4, 2, none⟩ = some (.int .i64 p))) (ds := []) #[false, false, false, false, false, false, false, false, false, false, false, false, false, false, false, false, false, false, false, false, false, false, false, false, false, false, false, false, false, false, false, false] (by kernel_rfl) rfl rfl (HS0.out _ HW.out.1.drew) (fun hHeld => ?_)
            refine pure_ (i := 0) (N := some 37) (v := ?_) (a' := ?_) #[true, false, false, false, false, false, false, false, false, false, false, false, false, false, false, false, false, false, false, false, false, false, false, false, false, false, false, false, false, false, false, false] rfl rfl (by kernel_rfl) (fun _ _ _ h => h) (Or.inl ⟨by rfl, ?_⟩) ?_ ?_
            rotate_left
            · intro w'
              go_simp
              with_reducible rfl
            rotate_left
            · simp only [Act.put, List.setIfInBounds_toArray, List.set_cons_zero, List.set_cons_succ, i64_w, i32_w]
              rfl
            refine pure_ (i := 1) (N := some 38) (v := ?_) (a' := ?_) #[true, true, false, false, false, false, false, false, false, false, false, false, false, false, false, false, false, false, false, false, false, false, false, false, false, false, false, false, false, false, false, false] rfl rfl (by kernel_rfl) (fun _ _ _ h => h) (Or.inl ⟨by rfl, ?_⟩) ?_ ?_
            rotate_left
            · intro w'
              go_simp
              with_reducible rfl
            rotate_left
            · simp only [Act.put, List.setIfInBounds_toArray, List.set_cons_zero, List.set_cons_succ, i64_w, i32_w]
              rfl
            refine pure_ (i := 2) (N := some 39) (v := ?_) (a' := ?_) #[true, true, true, false, false, false, false, false, false, false, false, false, false, false, false, false, false, false, false, false, false, false, false, false, false, false, false, false, false, false, false, false] rfl rfl (by kernel_rfl) (fun _ _ _ h => h) (Or.inl ⟨by rfl, ?_⟩) ?_ ?_
            rotate_left
            · intro w'
              go_simp
              with_reducible rfl
            rotate_left
            · simp only [Act.put, List.setIfInBounds_toArray, List.set_cons_zero, List.set_cons_succ, i64_w, i32_w]
              rfl
            refine pure_ (i := 3) (N := some 40) (v := ?_) (a' := ?_) #[true, true, true, true, false, false, false, false, false, false, false, false, false, false, false, false, false, false, false, false, false, false, false, false, false, false, false, false, false, false, false, false] rfl rfl (by kernel_rfl) (fun _ _ _ h => h) (Or.inl ⟨by rfl, ?_⟩) ?_ ?_
            rotate_left
            · intro w'
              go_simp
              with_reducible rfl
            rotate_left
            · simp only [Act.put, List.setIfInBounds_toArray, List.set_cons_zero, List.set_cons_succ, i64_w, i32_w]
              rfl
            refine take_ (i := 4) (N := some 41) (v := ?_) (a' := ?_) #[true, true, true, true, true, false, false, false, false, false, false, false, false, false, false, false, false, false, false, false, false, false, false, false, false, false, false, false, false, false, false, false] rfl rfl (by kernel_rfl) (fun _ _ _ h => h) (Or.inl ⟨by rfl, ?_⟩) hHeld ?_ ?_
            rotate_left
            · rintro w' ⟨s0, s1, s2, s3, s4, s5, s6, s7, s8, s9, s10⟩
              go_simp
              with_reducible rfl
            rotate_left
            · simp only [Act.put, List.setIfInBounds_toArray, List.set_cons_zero, List.set_cons_succ, i64_w, i32_w]
              rfl
            refine take_ (i := 5) (N := some 42) (v := ?_) (a' := ?_) #[true, true, true, true, true, true, false, false, false, false, false, false, false, false, false, false, false, false, false, false, false, false, false, false, false, false, false, false, false, false, false, false] rfl rfl (by kernel_rfl) (fun _ _ _ h => h) (Or.inl ⟨by rfl, ?_⟩) hHeld ?_ ?_
            rotate_left
            · rintro w' ⟨s0, s1, s2, s3, s4, s5, s6, s7, s8, s9, s10⟩
              go_simp
              with_reducible rfl
            rotate_left
            · simp only [Act.put, List.setIfInBounds_toArray, List.set_cons_zero, List.set_cons_succ, i64_w, i32_w]
              rfl
            refine pure_ (i := 6) (N := some 43) (v := ?_) (a' := ?_) #[true, true, true, true, true, true, true, false, false, false, false, false, false, false, false, false, false, false, false, false, false, false, false, false, false, false, false, false, false, false, false, false] rfl rfl (by kernel_rfl) (fun _ _ _ h => h) (Or.inl ⟨by rfl, ?_⟩) ?_ ?_
            rotate_left
            · intro w'
              go_simp
              with_reducible rfl
            rotate_left
            · simp only [Act.put, List.setIfInBounds_toArray, List.set_cons_zero, List.set_cons_succ, i64_w, i32_w]
              rfl
            refine one_ (i := 7) (N := some 44) #[true, true, true, true, true, true, true, true, false, false, false, false, false, false, false, false, false, false, false, false, false, false, false, false, false, false, false, false, false, false, false, false] rfl rfl (by kernel_rfl) (by decide) (fun K hK => ?_)
            refine goes_ Try.func20 (by kernel_rfl) rfl #[.slice A n c, .agg #[.int .u8 k0, .int .u8 k1, .int .u8 k2, .int .u8 k3, .slice (some ⟨g, 0, none⟩) d cap, .int .i64 M, .int .i64 ce, .int .i64 co], .agg #[.int .i64 l, .int .i64 least, .int .i64 p], .slice (some ⟨gs, 0, none⟩) n n] (by rfl) rfl rfl (by (try simp only [List.map_toArray, List.map_cons, List.map_nil]); first | done | rfl) ?_
            with_reducible refine HHO.out.mono ?_
            rintro e7 w8 ⟨rfl, hk8, hs8⟩
            refine ⟨_, rfl, ?_⟩
            have HK8 := Aside0.mk (And.intro (HW.out.1.drew.step hk8) hs8)
            clear hk8 hs8
            refine hK.out _ _ (HS0.out _ HK8.out.1) (fun hHeld => ?_)
            clear hK K
            refine norm_ (a' := ?_) ?_ ?_
            rotate_left
            · show Act.put _ (some 44) _ = _
              simp only [Act.put, List.setIfInBounds_toArray, List.set_cons_zero, List.set_cons_succ, i64_w, i32_w]
              rfl
            refine pure_ (i := 8) (N := some 45) (v := ?_) (a' := ?_) #[true, true, true, true, true, true, true, true, true, false, false, false, false, false, false, false, false, false, false, false, false, false, false, false, false, false, false, false, false, false, false, false] rfl rfl (by kernel_rfl) (fun _ _ _ h => h) (Or.inl ⟨by rfl, ?_⟩) ?_ ?_
            rotate_left
            · intro w'
              go_simp
              with_reducible rfl
            rotate_left
            · simp only [Act.put, List.setIfInBounds_toArray, List.set_cons_zero, List.set_cons_succ, i64_w, i32_w]
              rfl
            refine pure_ (i := 9) (N := some 46) (v := ?_) (a' := ?_) #[true, true, true, true, true, true, true, true, true, true, false, false, false, false, false, false, false, false, false, false, false, false, false, false, false, false, false, false, false, false, false, false] rfl rfl (by kernel_rfl) (fun _ _ _ h => h) (Or.inl ⟨by rfl, ?_⟩) ?_ ?_
            rotate_left
            · intro w'
              go_simp
              with_reducible rfl
            rotate_left
            · simp only [Act.put, List.setIfInBounds_toArray, List.set_cons_zero, List.set_cons_succ, i64_w, i32_w]
              rfl
            refine pure_ (i := 10) (N := some 47) (v := ?_) (a' := ?_) #[true, true, true, true, true, true, true, true, true, true, true, false, false, false, false, false, false, false, false, false, false, false, false, false, false, false, false, false, false, false, false, false] rfl rfl (by kernel_rfl) (fun _ _ _ h => h) (Or.inl ⟨by rfl, ?_⟩) ?_ ?_
            rotate_left
            · intro w'
              go_simp
              with_reducible rfl
            rotate_left
            · simp only [Act.put, List.setIfInBounds_toArray, List.set_cons_zero, List.set_cons_succ, i64_w, i32_w]
              rfl
            refine pure_ (i := 11) (N := some 48) (v := ?_) (a' := ?_) #[true, true, true, true, true, true, true, true, true, true, true, true, false, false, false, false, false, false, false, false, false, false, false, false, false, false, false, false, false, false, false, false] rfl rfl (by kernel_rfl) (fun _ _ _ h => h) (Or.inl ⟨by rfl, ?_⟩) ?_ ?_
            rotate_left
            · intro w'
              go_simp
              with_reducible rfl
            rotate_left
            · simp only [Act.put, List.setIfInBounds_toArray, List.set_cons_zero, List.set_cons_succ, i64_w, i32_w]
              rfl
            refine pure_ (i := 12) (N := some 49) (v := ?_) (a' := ?_) #[true, true, true, true, true, true, true, true, true, true, true, true, true, false, false, false, false, false, false, false, false, false, false, false, false, false, false, false, false, false, false, false] rfl rfl (by kernel_rfl) (fun _ _ _ h => h) (Or.inl ⟨by rfl, ?_⟩) ?_ ?_
            rotate_left
            · intro w'
              go_simp
              with_reducible rfl
            rotate_left
            · simp only [Act.put, List.setIfInBounds_toArray, List.set_cons_zero, List.set_cons_succ, i64_w, i32_w]
              rfl
            refine pure_ (i := 13) (N := some 50) (v := undef) (a' := ?_) #[true, true, true, true, true, true, true, true, true, true, true, true, true, true, false, false, false, false, false, false, false, false, false, false, false, false, false, false, false, false, false, false] rfl rfl (by kernel_rfl) (fun _ _ _ h => h) (Or.inr ⟨by rfl, rfl⟩) ?_ ?_
            rotate_left
            · simp only [Act.put, List.setIfInBounds_toArray, List.set_cons_zero, List.set_cons_succ, i64_w, i32_w]
              rfl
            refine pure_ (i := 14) (N := some 51) (v := undef) (a' := ?_) #[true, true, true, true, true, true, true, true, true, true, true, true, true, true, true, false, false, false, false, false, false, false, false, false, false, false, false, false, false, false, false, false] rfl rfl (by kernel_rfl) (fun _ _ _ h => h) (Or.inr ⟨by rfl, rfl⟩) ?_ ?_
            rotate_left
            · simp only [Act.put, List.setIfInBounds_toArray, List.set_cons_zero, List.set_cons_succ, i64_w, i32_w]
              rfl
            refine pure_ (i := 15) (N := some 52) (v := ?_) (a' := ?_) #[true, true, true, true, true, true, true, true, true, true, true, true, true, true, true, true, false, false, false, false, false, false, false, false, false, false, false, false, false, false, false, false] rfl rfl (by kernel_rfl) (fun _ _ _ h => h) (Or.inl ⟨by rfl, ?_⟩) ?_ ?_
            rotate_left
            · intro w'
              go_simp
              with_reducible rfl
            rotate_left
            · simp only [Act.put, List.setIfInBounds_toArray, List.set_cons_zero, List.set_cons_succ, i64_w, i32_w]
              rfl
            refine pure_ (i := 16) (N := some 53) (v := ?_) (a' := ?_) #[true, true, true, true, true, true, true, true, true, true, true, true, true, true, true, true, true, false, false, false, false, false, false, false, false, false, false, false, false, false, false, false] rfl rfl (by kernel_rfl) (fun _ _ _ h => h) (Or.inl ⟨by rfl, ?_⟩) ?_ ?_
            rotate_left
            · intro w'
              go_simp
              with_reducible rfl
            rotate_left
            · simp only [Act.put, List.setIfInBounds_toArray, List.set_cons_zero, List.set_cons_succ, i64_w, i32_w]
              rfl
            refine pure_ (i := 17) (N := some 54) (v := undef) (a' := ?_) #[true, true, true, true, true, true, true, true, true, true, true, true, true, true, true, true, true, true, false, false, false, false, false, false, false, false, false, false, false, false, false, false] rfl rfl (by kernel_rfl) (fun _ _ _ h => h) (Or.inr ⟨by rfl, rfl⟩) ?_ ?_
            rotate_left
            · simp only [Act.put, List.setIfInBounds_toArray, List.set_cons_zero, List.set_cons_succ, i64_w, i32_w]
              rfl
            refine pure_ (i := 18) (N := some 55) (v := undef) (a' := ?_) #[true, true, true, true, true, true, true, true, true, true, true, true, true, true, true, true, true, true, true, false, false, false, false, false, false, false, false, false, false, false, false, false] rfl rfl (by kernel_rfl) (fun _ _ _ h => h) (Or.inr ⟨by rfl, rfl⟩) ?_ ?_
            rotate_left
            · simp only [Act.put, List.setIfInBounds_toArray, List.set_cons_zero, List.set_cons_succ, i64_w, i32_w]
              rfl
            refine pure_ (i := 19) (N := some 56) (v := undef) (a' := ?_) #[true, true, true, true, true, true, true, true, true, true, true, true, true, true, true, true, true, true, true, true, false, false, false, false, false, false, false, false, false, false, false, false] rfl rfl (by kernel_rfl) (fun _ _ _ h => h) (Or.inr ⟨by rfl, rfl⟩) ?_ ?_
            rotate_left
            · simp only [Act.put, List.setIfInBounds_toArray, List.set_cons_zero, List.set_cons_succ, i64_w, i32_w]
              rfl
            refine pure_ (i := 20) (N := some 57) (v := undef) (a' := ?_) #[true, true, true, true, true, true, true, true, true, true, true, true, true, true, true, true, true, true, true, true, true, false, false, false, false, false, false, false, false, false, false, false] rfl rfl (by kernel_rfl) (fun _ _ _ h => h) (Or.inr ⟨by rfl, rfl⟩) ?_ ?_
            rotate_left
            · simp only [Act.put, List.setIfInBounds_toArray, List.set_cons_zero, List.set_cons_succ, i64_w, i32_w]
              rfl
            refine pure_ (i := 21) (N := some 58) (v := undef) (a' := ?_) #[true, true, true, true, true, true, true, true, true, true, true, true, true, true, true, true, true, true, true, true, true, true, false, false, false, false, false, false, false, false, false, false] rfl rfl (by kernel_rfl) (fun _ _ _ h => h) (Or.inr ⟨by rfl, rfl⟩) ?_ ?_
            rotate_left
            · simp only [Act.put, List.setIfInBounds_toArray, List.set_cons_zero, List.set_cons_succ, i64_w, i32_w]
              rfl
            refine pure_ (i := 22) (N := some 59) (v := undef) (a' := ?_) #[true, true, true, true, true, true, true, true, true, true, true, true, true, true, true, true, true, true, true, true, true, true, true, false, false, false, false, false, false, false, false, false] rfl rfl (by kernel_rfl) (fun _ _ _ h => h) (Or.inr ⟨by rfl, rfl⟩) ?_ ?_
            rotate_left
            · simp only [Act.put, List.setIfInBounds_toArray, List.set_cons_zero, List.set_cons_succ, i64_w, i32_w]
              rfl
            refine pure_ (i := 23) (N := some 60) (v := undef) (a' := ?_) #[true, true, true, true, true, true, true, true, true, true, true, true, true, true, true, true, true, true, true, true, true, true, true, true, false, false, false, false, false, false, false, false] rfl rfl (by kernel_rfl) (fun _ _ _ h => h) (Or.inr ⟨by rfl, rfl⟩) ?_ ?_
            rotate_left
            · simp only [Act.put, List.setIfInBounds_toArray, List.set_cons_zero, List.set_cons_succ, i64_w, i32_w]
              rfl
            refine pure_ (i := 24) (N := some 61) (v := undef) (a' := ?_) #[true, true, true, true, true, true, true, true, true, true, true, true, true, true, true, true, true, true, true, true, true, true, true, true, true, false, false, false, false, false, false, false] rfl rfl (by kernel_rfl) (fun _ _ _ h => h) (Or.inr ⟨by rfl, rfl⟩) ?_ ?_
            rotate_left
            · simp only [Act.put, List.setIfInBounds_toArray, List.set_cons_zero, List.set_cons_succ, i64_w, i32_w]
              rfl
            refine pure_ (i := 25) (N := some 62) (v := undef) (a' := ?_) #[true, true, true, true, true, true, true, true, true, true, true, true, true, true, true, true, true, true, true, true, true, true, true, true, true, true, false, false, false, false, false, false] rfl rfl (by kernel_rfl) (fun _ _ _ h => h) (Or.inr ⟨by rfl, rfl⟩) ?_ ?_
            rotate_left
            · simp only [Act.put, List.setIfInBounds_toArray, List.set_cons_zero, List.set_cons_succ, i64_w, i32_w]
              rfl
            refine pure_ (i := 26) (N := some 63) (v := undef) (a' := ?_) #[true, true, true, true, true, true, true, true, true, true, true, true, true, true, true, true, true, true, true, true, true, true, true, true, true, true, true, false, false, false, false, false] rfl rfl (by kernel_rfl) (fun _ _ _ h => h) (Or.inr ⟨by rfl, rfl⟩) ?_ ?_
            rotate_left
            · simp only [Act.put, List.setIfInBounds_toArray, List.set_cons_zero, List.set_cons_succ, i64_w, i32_w]
              rfl
            refine pure_ (i := 27) (N := some 64) (v := undef) (a' := ?_) #[true, true, true, true, true, true, true, true, true, true, true, true, true, true, true, true, true, true, true, true, true, true, true, true, true, true, true, true, false, false, false, false] rfl rfl (by kernel_rfl) (fun _ _ _ h => h) (Or.inr ⟨by rfl, rfl⟩) ?_ ?_
            rotate_left
            · simp only [Act.put, List.setIfInBounds_toArray, List.set_cons_zero, List.set_cons_succ, i64_w, i32_w]
              rfl
            refine pure_ (i := 28) (N := some 65) (v := undef) (a' := ?_) #[true, true, true, true, true, true, true, true, true, true, true, true, true, true, true, true, true, true, true, true, true, true, true, true, true, true, true, true, true, false, false, false] rfl rfl (by kernel_rfl) (fun _ _ _ h => h) (Or.inr ⟨by rfl, rfl⟩) ?_ ?_
            rotate_left
            · simp only [Act.put, List.setIfInBounds_toArray, List.set_cons_zero, List.set_cons_succ, i64_w, i32_w]
              rfl
            refine pure_ (i := 29) (N := some 66) (v := undef) (a' := ?_) #[true, true, true, true, true, true, true, true, true, true, true, true, true, true, true, true, true, true, true, true, true, true, true, true, true, true, true, true, true, true, false, false] rfl rfl (by kernel_rfl) (fun _ _ _ h => h) (Or.inr ⟨by rfl, rfl⟩) ?_ ?_
            rotate_left
            · simp only [Act.put, List.setIfInBounds_toArray, List.set_cons_zero, List.set_cons_succ, i64_w, i32_w]
              rfl
            refine pure_ (i := 30) (N := some 67) (v := ?_) (a' := ?_) #[true, true, true, true, true, true, true, true, true, true, true, true, true, true, true, true, true, true, true, true, true, true, true, true, true, true, true, true, true, true, true, false] rfl rfl (by kernel_rfl) (fun _ _ _ h => h) (Or.inl ⟨by rfl, ?_⟩) ?_ ?_
            rotate_left
            · intro w'
              go_simp
              with_reducible rfl
            rotate_left
            · simp only [Act.put, List.setIfInBounds_toArray, List.set_cons_zero, List.set_cons_succ, i64_w, i32_w]
              rfl
            refine pure_ (i := 31) (N := some 68) (v := ?_) (a' := ?_) #[true, true, true, true, true, true, true, true, true, true, true, true, true, true, true, true, true, true, true, true, true, true, true, true, true, true, true, true, true, true, true, true] rfl rfl (by kernel_rfl) (fun _ _ _ h => h) (Or.inl ⟨by rfl, ?_⟩) ?_ ?_
            rotate_left
            · intro w'
              go_simp
              with_reducible rfl
            rotate_left
            · simp only [Act.put, List.setIfInBounds_toArray, List.set_cons_zero, List.set_cons_succ, i64_w, i32_w]
              rfl
            refine done_ (by kernel_rfl) ?_
            go_upto_region 13 with fail
            obtain ⟨t0, t1, t2, t3, t4, t5, t6, t7, _⟩ := HS0.out _ HK8.out.1
            go_wp2_with fail
            go_roundw
            case rel => exact ⟨j + 1, o + d, t + co, by go_num, by go_num, by go_num, by omega, by omega, by omega, by omega, ⟨HN.out.1, HN.out.2⟩, ⟨HK8.out.1, by rw [HN.out.1, HST.out]; exact HK8.out.2⟩⟩
            case measure => simp [intOf]; omega
          · by_cases hB : 20000 < cx
            · have hcA : decide (0 ≤ cx) = true := decide_eq_true (by omega)
              have hcB : decide (cx ≤ 20000) = false := decide_eq_false (by omega)
              have hcB2 : ¬ cx ≤ 20000 := by omega
              have hcA2 : 0 ≤ cx := by omega
              go_upto_region 11 with fail
              refine start_ (n := 32) (S := (fun W => W.cell? (ad.add (j.toNat * 8)) = some (.int .u8 k0) ∧ W.cell? ⟨(ad.add (j.toNat * 8)).block, (ad.add (j.toNat * 8)).off + 1, none⟩ = some (.int .u8 k1) ∧ W.cell? ⟨(ad.add (j.toNat * 8)).block, (ad.add (j.toNat * 8)).off + 2, none⟩ = some (.int .u8 k2) ∧ W.cell? ⟨(ad.add (j.toNat * 8)).block, (ad.add (j.toNat * 8)).off + 3, none⟩ = some (.int .u8 k3) ∧ W.cell? ⟨(ad.add (j.toNat * 8)).block, (ad.add (j.toNat * 8)).off + 4, none⟩ = some (.slice (some ⟨g, 0, none⟩) d cap) ∧ W.cell? ⟨(ad.add (j.toNat * 8)).block, (ad.add (j.toNat * 8)).off + 5, none⟩ = some (.int .i64 M) ∧ W.cell? ⟨(ad.add (j.toNat * 8)).block, (ad.add (j.toNat * 8)).off + 6, none⟩ = some (.int .i64 ce) ∧ W.cell? ⟨(ad.add (j.toNat * 8)).block, (ad.add (j.toNat * 8)).off + 7, none⟩ = some (.int .i64 co) ∧ W.cell? ⟨b4, 0, none⟩ = some (.int .i64 l) ∧ W.cell? ⟨b4, 1, none⟩ = some (.int .i64 least) ∧ W.cell? ⟨b4, 2, none⟩ = some (.int .i64 p))) (ds := []) #[false, false, false, false, false, false, false, false, false, false, false, false, false, false, false, false, false, false, false, false, false, false, false, false, false, false, false, false, false, false, false, false] (by kernel_rfl) rfl rfl (HS0.out _ HW.out.1.drew) (fun hHeld => ?_)
              refine pure_ (i := 0) (N := some 37) (v := ?_) (a' := ?_) #[true, false, false, false, false, false, false, false, false, false, false, false, false, false, false, false, false, false, false, false, false, false, false, false, false, false, false, false, false, false, false, false] rfl rfl (by kernel_rfl) (fun _ _ _ h => h) (Or.inl ⟨by rfl, ?_⟩) ?_ ?_
              rotate_left
              · intro w'
                go_simp
                with_reducible rfl
              rotate_left
              · simp only [Act.put, List.setIfInBounds_toArray, List.set_cons_zero, List.set_cons_succ, i64_w, i32_w]
                rfl
              refine pure_ (i := 1) (N := some 38) (v := ?_) (a' := ?_) #[true, true, false, false, false, false, false, false, false, false, false, false, false, false, false, false, false, false, false, false, false, false, false, false, false, false, false, false, false, false, false, false] rfl rfl (by kernel_rfl) (fun _ _ _ h => h) (Or.inl ⟨by rfl, ?_⟩) ?_ ?_
              rotate_left
              · intro w'
                go_simp
                with_reducible rfl
              rotate_left
              · simp only [Act.put, List.setIfInBounds_toArray, List.set_cons_zero, List.set_cons_succ, i64_w, i32_w]
                rfl
              refine pure_ (i := 2) (N := some 39) (v := ?_) (a' := ?_) #[true, true, true, false, false, false, false, false, false, false, false, false, false, false, false, false, false, false, false, false, false, false, false, false, false, false, false, false, false, false, false, false] rfl rfl (by kernel_rfl) (fun _ _ _ h => h) (Or.inl ⟨by rfl, ?_⟩) ?_ ?_
              rotate_left
              · intro w'
                go_simp
                with_reducible rfl
              rotate_left
              · simp only [Act.put, List.setIfInBounds_toArray, List.set_cons_zero, List.set_cons_succ, i64_w, i32_w]
                rfl
              refine pure_ (i := 3) (N := some 40) (v := ?_) (a' := ?_) #[true, true, true, true, false, false, false, false, false, false, false, false, false, false, false, false, false, false, false, false, false, false, false, false, false, false, false, false, false, false, false, false] rfl rfl (by kernel_rfl) (fun _ _ _ h => h) (Or.inl ⟨by rfl, ?_⟩) ?_ ?_
              rotate_left
              · intro w'
                go_simp
                with_reducible rfl
              rotate_left
              · simp only [Act.put, List.setIfInBounds_toArray, List.set_cons_zero, List.set_cons_succ, i64_w, i32_w]
                rfl
              refine take_ (i := 4) (N := some 41) (v := ?_) (a' := ?_) #[true, true, true, true, true, false, false, false, false, false, false, false, false, false, false, false, false, false, false, false, false, false, false, false, false, false, false, false, false, false, false, false] rfl rfl (by kernel_rfl) (fun _ _ _ h => h) (Or.inl ⟨by rfl, ?_⟩) hHeld ?_ ?_
              rotate_left
              · rintro w' ⟨s0, s1, s2, s3, s4, s5, s6, s7, s8, s9, s10⟩
                go_simp
                with_reducible rfl
              rotate_left
              · simp only [Act.put, List.setIfInBounds_toArray, List.set_cons_zero, List.set_cons_succ, i64_w, i32_w]
                rfl
              refine take_ (i := 5) (N := some 42) (v := ?_) (a' := ?_) #[true, true, true, true, true, true, false, false, false, false, false, false, false, false, false, false, false, false, false, false, false, false, false, false, false, false, false, false, false, false, false, false] rfl rfl (by kernel_rfl) (fun _ _ _ h => h) (Or.inl ⟨by rfl, ?_⟩) hHeld ?_ ?_
              rotate_left
              · rintro w' ⟨s0, s1, s2, s3, s4, s5, s6, s7, s8, s9, s10⟩
                go_simp
                with_reducible rfl
              rotate_left
              · simp only [Act.put, List.setIfInBounds_toArray, List.set_cons_zero, List.set_cons_succ, i64_w, i32_w]
                rfl
              refine pure_ (i := 6) (N := some 43) (v := ?_) (a' := ?_) #[true, true, true, true, true, true, true, false, false, false, false, false, false, false, false, false, false, false, false, false, false, false, false, false, false, false, false, false, false, false, false, false] rfl rfl (by kernel_rfl) (fun _ _ _ h => h) (Or.inl ⟨by rfl, ?_⟩) ?_ ?_
              rotate_left
              · intro w'
                go_simp
                with_reducible rfl
              rotate_left
              · simp only [Act.put, List.setIfInBounds_toArray, List.set_cons_zero, List.set_cons_succ, i64_w, i32_w]
                rfl
              refine one_ (i := 7) (N := some 44) #[true, true, true, true, true, true, true, true, false, false, false, false, false, false, false, false, false, false, false, false, false, false, false, false, false, false, false, false, false, false, false, false] rfl rfl (by kernel_rfl) (by decide) (fun K hK => ?_)
              refine goes_ Try.func20 (by kernel_rfl) rfl #[.slice A n c, .agg #[.int .u8 k0, .int .u8 k1, .int .u8 k2, .int .u8 k3, .slice (some ⟨g, 0, none⟩) d cap, .int .i64 M, .int .i64 ce, .int .i64 co], .agg #[.int .i64 l, .int .i64 least, .int .i64 p], .slice (some ⟨gs, 0, none⟩) n n] (by rfl) rfl rfl (by (try simp only [List.map_toArray, List.map_cons, List.map_nil]); first | done | rfl) ?_
              with_reducible refine HHO.out.mono ?_
              rintro e7 w8 ⟨rfl, hk8, hs8⟩
              refine ⟨_, rfl, ?_⟩
              have HK8 := Aside0.mk (And.intro (HW.out.1.drew.step hk8) hs8)
              clear hk8 hs8
              refine hK.out _ _ (HS0.out _ HK8.out.1) (fun hHeld => ?_)
              clear hK K
              refine norm_ (a' := ?_) ?_ ?_
              rotate_left
              · show Act.put _ (some 44) _ = _
                simp only [Act.put, List.setIfInBounds_toArray, List.set_cons_zero, List.set_cons_succ, i64_w, i32_w]
                rfl
              refine pure_ (i := 8) (N := some 45) (v := ?_) (a' := ?_) #[true, true, true, true, true, true, true, true, true, false, false, false, false, false, false, false, false, false, false, false, false, false, false, false, false, false, false, false, false, false, false, false] rfl rfl (by kernel_rfl) (fun _ _ _ h => h) (Or.inl ⟨by rfl, ?_⟩) ?_ ?_
              rotate_left
              · intro w'
                go_simp
                with_reducible rfl
              rotate_left
              · simp only [Act.put, List.setIfInBounds_toArray, List.set_cons_zero, List.set_cons_succ, i64_w, i32_w]
                rfl
              refine pure_ (i := 9) (N := some 46) (v := ?_) (a' := ?_) #[true, true, true, true, true, true, true, true, true, true, false, false, false, false, false, false, false, false, false, false, false, false, false, false, false, false, false, false, false, false, false, false] rfl rfl (by kernel_rfl) (fun _ _ _ h => h) (Or.inl ⟨by rfl, ?_⟩) ?_ ?_
              rotate_left
              · intro w'
                go_simp
                with_reducible rfl
              rotate_left
              · simp only [Act.put, List.setIfInBounds_toArray, List.set_cons_zero, List.set_cons_succ, i64_w, i32_w]
                rfl
              refine pure_ (i := 10) (N := some 47) (v := ?_) (a' := ?_) #[true, true, true, true, true, true, true, true, true, true, true, false, false, false, false, false, false, false, false, false, false, false, false, false, false, false, false, false, false, false, false, false] rfl rfl (by kernel_rfl) (fun _ _ _ h => h) (Or.inl ⟨by rfl, ?_⟩) ?_ ?_
              rotate_left
              · intro w'
                go_simp
                with_reducible rfl
              rotate_left
              · simp only [Act.put, List.setIfInBounds_toArray, List.set_cons_zero, List.set_cons_succ, i64_w, i32_w]
                rfl
              refine pure_ (i := 11) (N := some 48) (v := ?_) (a' := ?_) #[true, true, true, true, true, true, true, true, true, true, true, true, false, false, false, false, false, false, false, false, false, false, false, false, false, false, false, false, false, false, false, false] rfl rfl (by kernel_rfl) (fun _ _ _ h => h) (Or.inl ⟨by rfl, ?_⟩) ?_ ?_
              rotate_left
              · intro w'
                go_simp
                with_reducible rfl
              rotate_left
              · simp only [Act.put, List.setIfInBounds_toArray, List.set_cons_zero, List.set_cons_succ, i64_w, i32_w]
                rfl
              refine pure_ (i := 12) (N := some 49) (v := ?_) (a' := ?_) #[true, true, true, true, true, true, true, true, true, true, true, true, true, false, false, false, false, false, false, false, false, false, false, false, false, false, false, false, false, false, false, false] rfl rfl (by kernel_rfl) (fun _ _ _ h => h) (Or.inl ⟨by rfl, ?_⟩) ?_ ?_
              rotate_left
              · intro w'
                go_simp
                with_reducible rfl
              rotate_left
              · simp only [Act.put, List.setIfInBounds_toArray, List.set_cons_zero, List.set_cons_succ, i64_w, i32_w]
                rfl
              refine pure_ (i := 13) (N := some 50) (v := ?_) (a' := ?_) #[true, true, true, true, true, true, true, true, true, true, true, true, true, true, false, false, false, false, false, false, false, false, false, false, false, false, false, false, false, false, false, false] rfl rfl (by kernel_rfl) (fun _ _ _ h => h) (Or.inl ⟨by rfl, ?_⟩) ?_ ?_
              rotate_left
              · intro w'
                go_simp
                with_reducible rfl
              rotate_left
              · simp only [Act.put, List.setIfInBounds_toArray, List.set_cons_zero, List.set_cons_succ, i64_w, i32_w]
                rfl
              refine pure_ (i := 14) (N := some 51) (v := ?_) (a' := ?_) #[true, true, true, true, true, true, true, true, true, true, true, true, true, true, true, false, false, false, false, false, false, false, false, false, false, false, false, false, false, false, false, false] rfl rfl (by kernel_rfl) (fun _ _ _ h => h) (Or.inl ⟨by rfl, ?_⟩) ?_ ?_
              rotate_left
              · intro w'
                go_simp
                with_reducible rfl
              rotate_left
              · simp only [Act.put, List.setIfInBounds_toArray, List.set_cons_zero, List.set_cons_succ, i64_w, i32_w]
                rfl
              refine pure_ (i := 15) (N := some 52) (v := ?_) (a' := ?_) #[true, true, true, true, true, true, true, true, true, true, true, true, true, true, true, true, false, false, false, false, false, false, false, false, false, false, false, false, false, false, false, false] rfl rfl (by kernel_rfl) (fun _ _ _ h => h) (Or.inl ⟨by rfl, ?_⟩) ?_ ?_
              rotate_left
              · intro w'
                go_simp
                with_reducible rfl
              rotate_left
              · simp only [Act.put, List.setIfInBounds_toArray, List.set_cons_zero, List.set_cons_succ, i64_w, i32_w]
                rfl
              refine pure_ (i := 16) (N := some 53) (v := ?_) (a' := ?_) #[true, true, true, true, true, true, true, true, true, true, true, true, true, true, true, true, true, false, false, false, false, false, false, false, false, false, false, false, false, false, false, false] rfl rfl (by kernel_rfl) (fun _ _ _ h => h) (Or.inl ⟨by rfl, ?_⟩) ?_ ?_
              rotate_left
              · intro w'
                go_simp
                with_reducible rfl
              rotate_left
              · simp only [Act.put, List.setIfInBounds_toArray, List.set_cons_zero, List.set_cons_succ, i64_w, i32_w]
                rfl
              refine pure_ (i := 17) (N := some 54) (v := undef) (a' := ?_) #[true, true, true, true, true, true, true, true, true, true, true, true, true, true, true, true, true, true, false, false, false, false, false, false, false, false, false, false, false, false, false, false] rfl rfl (by kernel_rfl) (fun _ _ _ h => h) (Or.inr ⟨by rfl, rfl⟩) ?_ ?_
              rotate_left
              · simp only [Act.put, List.setIfInBounds_toArray, List.set_cons_zero, List.set_cons_succ, i64_w, i32_w]
                rfl
              refine pure_ (i := 18) (N := some 55) (v := undef) (a' := ?_) #[true, true, true, true, true, true, true, true, true, true, true, true, true, true, true, true, true, true, true, false, false, false, false, false, false, false, false, false, false, false, false, false] rfl rfl (by kernel_rfl) (fun _ _ _ h => h) (Or.inr ⟨by rfl, rfl⟩) ?_ ?_
              rotate_left
              · simp only [Act.put, List.setIfInBounds_toArray, List.set_cons_zero, List.set_cons_succ, i64_w, i32_w]
                rfl
              refine pure_ (i := 19) (N := some 56) (v := undef) (a' := ?_) #[true, true, true, true, true, true, true, true, true, true, true, true, true, true, true, true, true, true, true, true, false, false, false, false, false, false, false, false, false, false, false, false] rfl rfl (by kernel_rfl) (fun _ _ _ h => h) (Or.inr ⟨by rfl, rfl⟩) ?_ ?_
              rotate_left
              · simp only [Act.put, List.setIfInBounds_toArray, List.set_cons_zero, List.set_cons_succ, i64_w, i32_w]
                rfl
              refine pure_ (i := 20) (N := some 57) (v := undef) (a' := ?_) #[true, true, true, true, true, true, true, true, true, true, true, true, true, true, true, true, true, true, true, true, true, false, false, false, false, false, false, false, false, false, false, false] rfl rfl (by kernel_rfl) (fun _ _ _ h => h) (Or.inr ⟨by rfl, rfl⟩) ?_ ?_
              rotate_left
              · simp only [Act.put, List.setIfInBounds_toArray, List.set_cons_zero, List.set_cons_succ, i64_w, i32_w]
                rfl
              refine pure_ (i := 21) (N := some 58) (v := undef) (a' := ?_) #[true, true, true, true, true, true, true, true, true, true, true, true, true, true, true, true, true, true, true, true, true, true, false, false, false, false, false, false, false, false, false, false] rfl rfl (by kernel_rfl) (fun _ _ _ h => h) (Or.inr ⟨by rfl, rfl⟩) ?_ ?_
              rotate_left
              · simp only [Act.put, List.setIfInBounds_toArray, List.set_cons_zero, List.set_cons_succ, i64_w, i32_w]
                rfl
              refine pure_ (i := 22) (N := some 59) (v := undef) (a' := ?_) #[true, true, true, true, true, true, true, true, true, true, true, true, true, true, true, true, true, true, true, true, true, true, true, false, false, false, false, false, false, false, false, false] rfl rfl (by kernel_rfl) (fun _ _ _ h => h) (Or.inr ⟨by rfl, rfl⟩) ?_ ?_
              rotate_left
              · simp only [Act.put, List.setIfInBounds_toArray, List.set_cons_zero, List.set_cons_succ, i64_w, i32_w]
                rfl
              refine pure_ (i := 23) (N := some 60) (v := undef) (a' := ?_) #[true, true, true, true, true, true, true, true, true, true, true, true, true, true, true, true, true, true, true, true, true, true, true, true, false, false, false, false, false, false, false, false] rfl rfl (by kernel_rfl) (fun _ _ _ h => h) (Or.inr ⟨by rfl, rfl⟩) ?_ ?_
              rotate_left
              · simp only [Act.put, List.setIfInBounds_toArray, List.set_cons_zero, List.set_cons_succ, i64_w, i32_w]
                rfl
              refine pure_ (i := 24) (N := some 61) (v := undef) (a' := ?_) #[true, true, true, true, true, true, true, true, true, true, true, true, true, true, true, true, true, true, true, true, true, true, true, true, true, false, false, false, false, false, false, false] rfl rfl (by kernel_rfl) (fun _ _ _ h => h) (Or.inr ⟨by rfl, rfl⟩) ?_ ?_
              rotate_left
              · simp only [Act.put, List.setIfInBounds_toArray, List.set_cons_zero, List.set_cons_succ, i64_w, i32_w]
                rfl
              refine pure_ (i := 25) (N := some 62) (v := undef) (a' := ?_) #[true, true, true, true, true, true, true, true, true, true, true, true, true, true, true, true, true, true, true, true, true, true, true, true, true, true, false, false, false, false, false, false] rfl rfl (by kernel_rfl) (fun _ _ _ h => h) (Or.inr ⟨by rfl, rfl⟩) ?_ ?_
              rotate_left
              · simp only [Act.put, List.setIfInBounds_toArray, List.set_cons_zero, List.set_cons_succ, i64_w, i32_w]
                rfl
              refine pure_ (i := 26) (N := some 63) (v := undef) (a' := ?_) #[true, true, true, true, true, true, true, true, true, true, true, true, true, true, true, true, true, true, true, true, true, true, true, true, true, true, true, false, false, false, false, false] rfl rfl (by kernel_rfl) (fun _ _ _ h => h) (Or.inr ⟨by rfl, rfl⟩) ?_ ?_
              rotate_left
              · simp only [Act.put, List.setIfInBounds_toArray, List.set_cons_zero, List.set_cons_succ, i64_w, i32_w]
                rfl
              refine pure_ (i := 27) (N := some 64) (v := undef) (a' := ?_) #[true, true, true, true, true, true, true, true, true, true, true, true, true, true, true, true, true, true, true, true, true, true, true, true, true, true, true, true, false, false, false, false] rfl rfl (by kernel_rfl) (fun _ _ _ h => h) (Or.inr ⟨by rfl, rfl⟩) ?_ ?_
              rotate_left
              · simp only [Act.put, List.setIfInBounds_toArray, List.set_cons_zero, List.set_cons_succ, i64_w, i32_w]
                rfl
              refine pure_ (i := 28) (N := some 65) (v := undef) (a' := ?_) #[true, true, true, true, true, true, true, true, true, true, true, true, true, true, true, true, true, true, true, true, true, true, true, true, true, true, true, true, true, false, false, false] rfl rfl (by kernel_rfl) (fun _ _ _ h => h) (Or.inr ⟨by rfl, rfl⟩) ?_ ?_
              rotate_left
              · simp only [Act.put, List.setIfInBounds_toArray, List.set_cons_zero, List.set_cons_succ, i64_w, i32_w]
                rfl
              refine pure_ (i := 29) (N := some 66) (v := undef) (a' := ?_) #[true, true, true, true, true, true, true, true, true, true, true, true, true, true, true, true, true, true, true, true, true, true, true, true, true, true, true, true, true, true, false, false] rfl rfl (by kernel_rfl) (fun _ _ _ h => h) (Or.inr ⟨by rfl, rfl⟩) ?_ ?_
              rotate_left
              · simp only [Act.put, List.setIfInBounds_toArray, List.set_cons_zero, List.set_cons_succ, i64_w, i32_w]
                rfl
              refine pure_ (i := 30) (N := some 67) (v := ?_) (a' := ?_) #[true, true, true, true, true, true, true, true, true, true, true, true, true, true, true, true, true, true, true, true, true, true, true, true, true, true, true, true, true, true, true, false] rfl rfl (by kernel_rfl) (fun _ _ _ h => h) (Or.inl ⟨by rfl, ?_⟩) ?_ ?_
              rotate_left
              · intro w'
                go_simp
                with_reducible rfl
              rotate_left
              · simp only [Act.put, List.setIfInBounds_toArray, List.set_cons_zero, List.set_cons_succ, i64_w, i32_w]
                rfl
              refine pure_ (i := 31) (N := some 68) (v := ?_) (a' := ?_) #[true, true, true, true, true, true, true, true, true, true, true, true, true, true, true, true, true, true, true, true, true, true, true, true, true, true, true, true, true, true, true, true] rfl rfl (by kernel_rfl) (fun _ _ _ h => h) (Or.inl ⟨by rfl, ?_⟩) ?_ ?_
              rotate_left
              · intro w'
                go_simp
                with_reducible rfl
              rotate_left
              · simp only [Act.put, List.setIfInBounds_toArray, List.set_cons_zero, List.set_cons_succ, i64_w, i32_w]
                rfl
              refine done_ (by kernel_rfl) ?_
              go_upto_region 13 with fail
              obtain ⟨t0, t1, t2, t3, t4, t5, t6, t7, _⟩ := HS0.out _ HK8.out.1
              go_wp2_with fail
              go_roundw
              case rel => exact ⟨j + 1, o + d, t + co, by go_num, by go_num, by go_num, by omega, by omega, by omega, by omega, ⟨HN.out.1, HN.out.2⟩, ⟨HK8.out.1, by rw [HN.out.1, HST.out]; exact HK8.out.2⟩⟩
              case measure => simp [intOf]; omega
            · have hcA : decide (0 ≤ cx) = true := decide_eq_true (by omega)
              have hcB : decide (cx ≤ 20000) = true := decide_eq_true (by omega)
              have hcB2 : cx ≤ 20000 := by omega
              have hcA2 : 0 ≤ cx := by omega
              go_upto_region 11 with fail
              refine start_ (n := 32) (S := (fun W => W.cell? (ad.add (j.toNat * 8)) = some (.int .u8 k0) ∧ W.cell? ⟨(ad.add (j.toNat * 8)).block, (ad.add (j.toNat * 8)).off + 1, none⟩ = some (.int .u8 k1) ∧ W.cell? ⟨(ad.add (j.toNat * 8)).block, (ad.add (j.toNat * 8)).off + 2, none⟩ = some (.int .u8 k2) ∧ W.cell? ⟨(ad.add (j.toNat * 8)).block, (ad.add (j.toNat * 8)).off + 3, none⟩ = some (.int .u8 k3) ∧ W.cell? ⟨(ad.add (j.toNat * 8)).block, (ad.add (j.toNat * 8)).off + 4, none⟩ = some (.slice (some ⟨g, 0, none⟩) d cap) ∧ W.cell? ⟨(ad.add (j.toNat * 8)).block, (ad.add (j.toNat * 8)).off + 5, none⟩ = some (.int .i64 M) ∧ W.cell? ⟨(ad.add (j.toNat * 8)).block, (ad.add (j.toNat * 8)).off + 6, none⟩ = some (.int .i64 ce) ∧ W.cell? ⟨(ad.add (j.toNat * 8)).block, (ad.add (j.toNat * 8)).off + 7, none⟩ = some (.int .i64 co) ∧ W.cell? ⟨b4, 0, none⟩ = some (.int .i64 l) ∧ W.cell? ⟨b4, 1, none⟩ = some (.int .i64 least) ∧ W.cell? ⟨b4, 2, none⟩ = some (.int .i64 p))) (ds := []) #[false, false, false, false, false, false, false, false, false, false, false, false, false, false, false, false, false, false, false, false, false, false, false, false, false, false, false, false, false, false, false, false] (by kernel_rfl) rfl rfl (HS0.out _ HW.out.1.drew) (fun hHeld => ?_)
              refine pure_ (i := 0) (N := some 37) (v := ?_) (a' := ?_) #[true, false, false, false, false, false, false, false, false, false, false, false, false, false, false, false, false, false, false, false, false, false, false, false, false, false, false, false, false, false, false, false] rfl rfl (by kernel_rfl) (fun _ _ _ h => h) (Or.inl ⟨by rfl, ?_⟩) ?_ ?_
              rotate_left
              · intro w'
                go_simp
                with_reducible rfl
              rotate_left
              · simp only [Act.put, List.setIfInBounds_toArray, List.set_cons_zero, List.set_cons_succ, i64_w, i32_w]
                rfl
              refine pure_ (i := 1) (N := some 38) (v := ?_) (a' := ?_) #[true, true, false, false, false, false, false, false, false, false, false, false, false, false, false, false, false, false, false, false, false, false, false, false, false, false, false, false, false, false, false, false] rfl rfl (by kernel_rfl) (fun _ _ _ h => h) (Or.inl ⟨by rfl, ?_⟩) ?_ ?_
              rotate_left
              · intro w'
                go_simp
                with_reducible rfl
              rotate_left
              · simp only [Act.put, List.setIfInBounds_toArray, List.set_cons_zero, List.set_cons_succ, i64_w, i32_w]
                rfl
              refine pure_ (i := 2) (N := some 39) (v := ?_) (a' := ?_) #[true, true, true, false, false, false, false, false, false, false, false, false, false, false, false, false, false, false, false, false, false, false, false, false, false, false, false, false, false, false, false, false] rfl rfl (by kernel_rfl) (fun _ _ _ h => h) (Or.inl ⟨by rfl, ?_⟩) ?_ ?_
              rotate_left
              · intro w'
                go_simp
                with_reducible rfl
              rotate_left
              · simp only [Act.put, List.setIfInBounds_toArray, List.set_cons_zero, List.set_cons_succ, i64_w, i32_w]
                rfl
              refine pure_ (i := 3) (N := some 40) (v := ?_) (a' := ?_) #[true, true, true, true, false, false, false, false, false, false, false, false, false, false, false, false, false, false, false, false, false, false, false, false, false, false, false, false, false, false, false, false] rfl rfl (by kernel_rfl) (fun _ _ _ h => h) (Or.inl ⟨by rfl, ?_⟩) ?_ ?_
              rotate_left
              · intro w'
                go_simp
                with_reducible rfl
              rotate_left
              · simp only [Act.put, List.setIfInBounds_toArray, List.set_cons_zero, List.set_cons_succ, i64_w, i32_w]
                rfl
              refine take_ (i := 4) (N := some 41) (v := ?_) (a' := ?_) #[true, true, true, true, true, false, false, false, false, false, false, false, false, false, false, false, false, false, false, false, false, false, false, false, false, false, false, false, false, false, false, false] rfl rfl (by kernel_rfl) (fun _ _ _ h => h) (Or.inl ⟨by rfl, ?_⟩) hHeld ?_ ?_
              rotate_left
              · rintro w' ⟨s0, s1, s2, s3, s4, s5, s6, s7, s8, s9, s10⟩
                go_simp
                with_reducible rfl
              rotate_left
              · simp only [Act.put, List.setIfInBounds_toArray, List.set_cons_zero, List.set_cons_succ, i64_w, i32_w]
                rfl
              refine take_ (i := 5) (N := some 42) (v := ?_) (a' := ?_) #[true, true, true, true, true, true, false, false, false, false, false, false, false, false, false, false, false, false, false, false, false, false, false, false, false, false, false, false, false, false, false, false] rfl rfl (by kernel_rfl) (fun _ _ _ h => h) (Or.inl ⟨by rfl, ?_⟩) hHeld ?_ ?_
              rotate_left
              · rintro w' ⟨s0, s1, s2, s3, s4, s5, s6, s7, s8, s9, s10⟩
                go_simp
                with_reducible rfl
              rotate_left
              · simp only [Act.put, List.setIfInBounds_toArray, List.set_cons_zero, List.set_cons_succ, i64_w, i32_w]
                rfl
              refine pure_ (i := 6) (N := some 43) (v := ?_) (a' := ?_) #[true, true, true, true, true, true, true, false, false, false, false, false, false, false, false, false, false, false, false, false, false, false, false, false, false, false, false, false, false, false, false, false] rfl rfl (by kernel_rfl) (fun _ _ _ h => h) (Or.inl ⟨by rfl, ?_⟩) ?_ ?_
              rotate_left
              · intro w'
                go_simp
                with_reducible rfl
              rotate_left
              · simp only [Act.put, List.setIfInBounds_toArray, List.set_cons_zero, List.set_cons_succ, i64_w, i32_w]
                rfl
              refine one_ (i := 7) (N := some 44) #[true, true, true, true, true, true, true, true, false, false, false, false, false, false, false, false, false, false, false, false, false, false, false, false, false, false, false, false, false, false, false, false] rfl rfl (by kernel_rfl) (by decide) (fun K hK => ?_)
              refine goes_ Try.func20 (by kernel_rfl) rfl #[.slice A n c, .agg #[.int .u8 k0, .int .u8 k1, .int .u8 k2, .int .u8 k3, .slice (some ⟨g, 0, none⟩) d cap, .int .i64 M, .int .i64 ce, .int .i64 co], .agg #[.int .i64 l, .int .i64 least, .int .i64 p], .slice (some ⟨gs, 0, none⟩) n n] (by rfl) rfl rfl (by (try simp only [List.map_toArray, List.map_cons, List.map_nil]); first | done | rfl) ?_
              with_reducible refine HHO.out.mono ?_
              rintro e7 w8 ⟨rfl, hk8, hs8⟩
              refine ⟨_, rfl, ?_⟩
              have HK8 := Aside0.mk (And.intro (HW.out.1.drew.step hk8) hs8)
              clear hk8 hs8
              refine hK.out _ _ (HS0.out _ HK8.out.1) (fun hHeld => ?_)
              clear hK K
              refine norm_ (a' := ?_) ?_ ?_
              rotate_left
              · show Act.put _ (some 44) _ = _
                simp only [Act.put, List.setIfInBounds_toArray, List.set_cons_zero, List.set_cons_succ, i64_w, i32_w]
                rfl
              refine pure_ (i := 8) (N := some 45) (v := ?_) (a' := ?_) #[true, true, true, true, true, true, true, true, true, false, false, false, false, false, false, false, false, false, false, false, false, false, false, false, false, false, false, false, false, false, false, false] rfl rfl (by kernel_rfl) (fun _ _ _ h => h) (Or.inl ⟨by rfl, ?_⟩) ?_ ?_
              rotate_left
              · intro w'
                go_simp
                with_reducible rfl
              rotate_left
              · simp only [Act.put, List.setIfInBounds_toArray, List.set_cons_zero, List.set_cons_succ, i64_w, i32_w]
                rfl
              refine pure_ (i := 9) (N := some 46) (v := ?_) (a' := ?_) #[true, true, true, true, true, true, true, true, true, true, false, false, false, false, false, false, false, false, false, false, false, false, false, false, false, false, false, false, false, false, false, false] rfl rfl (by kernel_rfl) (fun _ _ _ h => h) (Or.inl ⟨by rfl, ?_⟩) ?_ ?_
              rotate_left
              · intro w'
                go_simp
                with_reducible rfl
              rotate_left
              · simp only [Act.put, List.setIfInBounds_toArray, List.set_cons_zero, List.set_cons_succ, i64_w, i32_w]
                rfl
              refine pure_ (i := 10) (N := some 47) (v := ?_) (a' := ?_) #[true, true, true, true, true, true, true, true, true, true, true, false, false, false, false, false, false, false, false, false, false, false, false, false, false, false, false, false, false, false, false, false] rfl rfl (by kernel_rfl) (fun _ _ _ h => h) (Or.inl ⟨by rfl, ?_⟩) ?_ ?_
              rotate_left
              · intro w'
                go_simp
                with_reducible rfl
              rotate_left
              · simp only [Act.put, List.setIfInBounds_toArray, List.set_cons_zero, List.set_cons_succ, i64_w, i32_w]
                rfl
              refine pure_ (i := 11) (N := some 48) (v := ?_) (a' := ?_) #[true, true, true, true, true, true, true, true, true, true, true, true, false, false, false, false, false, false, false, false, false, false, false, false, false, false, false, false, false, false, false, false] rfl rfl (by kernel_rfl) (fun _ _ _ h => h) (Or.inl ⟨by rfl, ?_⟩) ?_ ?_
              rotate_left
              · intro w'
                go_simp
                with_reducible rfl
              rotate_left
              · simp only [Act.put, List.setIfInBounds_toArray, List.set_cons_zero, List.set_cons_succ, i64_w, i32_w]
                rfl
              refine pure_ (i := 12) (N := some 49) (v := ?_) (a' := ?_) #[true, true, true, true, true, true, true, true, true, true, true, true, true, false, false, false, false, false, false, false, false, false, false, false, false, false, false, false, false, false, false, false] rfl rfl (by kernel_rfl) (fun _ _ _ h => h) (Or.inl ⟨by rfl, ?_⟩) ?_ ?_
              rotate_left
              · intro w'
                go_simp
                with_reducible rfl
              rotate_left
              · simp only [Act.put, List.setIfInBounds_toArray, List.set_cons_zero, List.set_cons_succ, i64_w, i32_w]
                rfl
              refine pure_ (i := 13) (N := some 50) (v := ?_) (a' := ?_) #[true, true, true, true, true, true, true, true, true, true, true, true, true, true, false, false, false, false, false, false, false, false, false, false, false, false, false, false, false, false, false, false] rfl rfl (by kernel_rfl) (fun _ _ _ h => h) (Or.inl ⟨by rfl, ?_⟩) ?_ ?_
              rotate_left
              · intro w'
                go_simp
                with_reducible rfl
              rotate_left
              · simp only [Act.put, List.setIfInBounds_toArray, List.set_cons_zero, List.set_cons_succ, i64_w, i32_w]
                rfl
              refine pure_ (i := 14) (N := some 51) (v := ?_) (a' := ?_) #[true, true, true, true, true, true, true, true, true, true, true, true, true, true, true, false, false, false, false, false, false, false, false, false, false, false, false, false, false, false, false, false] rfl rfl (by kernel_rfl) (fun _ _ _ h => h) (Or.inl ⟨by rfl, ?_⟩) ?_ ?_
              rotate_left
              · intro w'
                go_simp
                with_reducible rfl
              rotate_left
              · simp only [Act.put, List.setIfInBounds_toArray, List.set_cons_zero, List.set_cons_succ, i64_w, i32_w]
                rfl
              refine pure_ (i := 15) (N := some 52) (v := ?_) (a' := ?_) #[true, true, true, true, true, true, true, true, true, true, true, true, true, true, true, true, false, false, false, false, false, false, false, false, false, false, false, false, false, false, false, false] rfl rfl (by kernel_rfl) (fun _ _ _ h => h) (Or.inl ⟨by rfl, ?_⟩) ?_ ?_
              rotate_left
              · intro w'
                go_simp
                with_reducible rfl
              rotate_left
              · simp only [Act.put, List.setIfInBounds_toArray, List.set_cons_zero, List.set_cons_succ, i64_w, i32_w]
                rfl
              refine pure_ (i := 16) (N := some 53) (v := ?_) (a' := ?_) #[true, true, true, true, true, true, true, true, true, true, true, true, true, true, true, true, true, false, false, false, false, false, false, false, false, false, false, false, false, false, false, false] rfl rfl (by kernel_rfl) (fun _ _ _ h => h) (Or.inl ⟨by rfl, ?_⟩) ?_ ?_
              rotate_left
              · intro w'
                go_simp
                with_reducible rfl
              rotate_left
              · simp only [Act.put, List.setIfInBounds_toArray, List.set_cons_zero, List.set_cons_succ, i64_w, i32_w]
                rfl
              refine pure_ (i := 17) (N := some 54) (v := ?_) (a' := ?_) #[true, true, true, true, true, true, true, true, true, true, true, true, true, true, true, true, true, true, false, false, false, false, false, false, false, false, false, false, false, false, false, false] rfl rfl (by kernel_rfl) (fun _ _ _ h => h) (Or.inl ⟨by rfl, ?_⟩) ?_ ?_
              rotate_left
              · intro w'
                go_simp
                with_reducible rfl
              rotate_left
              · simp only [Act.put, List.setIfInBounds_toArray, List.set_cons_zero, List.set_cons_succ, i64_w, i32_w]
                rfl
              refine pure_ (i := 18) (N := some 55) (v := ?_) (a' := ?_) #[true, true, true, true, true, true, true, true, true, true, true, true, true, true, true, true, true, true, true, false, false, false, false, false, false, false, false, false, false, false, false, false] rfl rfl (by kernel_rfl) (fun _ _ _ h => h) (Or.inl ⟨by rfl, ?_⟩) ?_ ?_
              rotate_left
              · intro w'
                go_simp
                with_reducible rfl
              rotate_left
              · simp only [Act.put, List.setIfInBounds_toArray, List.set_cons_zero, List.set_cons_succ, i64_w, i32_w]
                rfl
              refine pure_ (i := 19) (N := some 56) (v := ?_) (a' := ?_) #[true, true, true, true, true, true, true, true, true, true, true, true, true, true, true, true, true, true, true, true, false, false, false, false, false, false, false, false, false, false, false, false] rfl rfl (by kernel_rfl) (fun _ _ _ h => h) (Or.inl ⟨by rfl, ?_⟩) ?_ ?_
              rotate_left
              · intro w'
                go_simp
                with_reducible rfl
              rotate_left
              · simp only [Act.put, List.setIfInBounds_toArray, List.set_cons_zero, List.set_cons_succ, i64_w, i32_w]
                rfl
              refine pure_ (i := 20) (N := some 57) (v := ?_) (a' := ?_) #[true, true, true, true, true, true, true, true, true, true, true, true, true, true, true, true, true, true, true, true, true, false, false, false, false, false, false, false, false, false, false, false] rfl rfl (by kernel_rfl) (fun _ _ _ h => h) (Or.inl ⟨by rfl, ?_⟩) ?_ ?_
              rotate_left
              · intro w'
                go_simp
                with_reducible rfl
              rotate_left
              · simp only [Act.put, List.setIfInBounds_toArray, List.set_cons_zero, List.set_cons_succ, i64_w, i32_w]
                rfl
              refine take_ (i := 21) (N := some 58) (v := ?_) (a' := ?_) #[true, true, true, true, true, true, true, true, true, true, true, true, true, true, true, true, true, true, true, true, true, true, false, false, false, false, false, false, false, false, false, false] rfl rfl (by kernel_rfl) (fun _ _ _ h => h) (Or.inl ⟨by rfl, ?_⟩) hHeld ?_ ?_
              rotate_left
              · rintro w' ⟨s0, s1, s2, s3, s4, s5, s6, s7, s8, s9, s10⟩
                go_simp
                with_reducible rfl
              rotate_left
              · simp only [Act.put, List.setIfInBounds_toArray, List.set_cons_zero, List.set_cons_succ, i64_w, i32_w]
                rfl
              refine pure_ (i := 22) (N := some 59) (v := ?_) (a' := ?_) #[true, true, true, true, true, true, true, true, true, true, true, true, true, true, true, true, true, true, true, true, true, true, true, false, false, false, false, false, false, false, false, false] rfl rfl (by kernel_rfl) (fun _ _ _ h => h) (Or.inl ⟨by rfl, ?_⟩) ?_ ?_
              rotate_left
              · intro w'
                go_simp
                with_reducible rfl
              rotate_left
              · simp only [Act.put, List.setIfInBounds_toArray, List.set_cons_zero, List.set_cons_succ, i64_w, i32_w]
                rfl
              refine pure_ (i := 24) (N := some 61) (v := ?_) (a' := ?_) #[true, true, true, true, true, true, true, true, true, true, true, true, true, true, true, true, true, true, true, true, true, true, true, false, true, false, false, false, false, false, false, false] rfl rfl (by kernel_rfl) (fun _ _ _ h => h) (Or.inl ⟨by rfl, ?_⟩) ?_ ?_
              rotate_left
              · intro w'
                go_simp
                with_reducible rfl
              rotate_left
              · simp only [Act.put, List.setIfInBounds_toArray, List.set_cons_zero, List.set_cons_succ, i64_w, i32_w]
                rfl
              refine pure_ (i := 25) (N := some 62) (v := ?_) (a' := ?_) #[true, true, true, true, true, true, true, true, true, true, true, true, true, true, true, true, true, true, true, true, true, true, true, false, true, true, false, false, false, false, false, false] rfl rfl (by kernel_rfl) (fun _ _ _ h => h) (Or.inl ⟨by rfl, ?_⟩) ?_ ?_
              rotate_left
              · intro w'
                go_simp
                with_reducible rfl
              rotate_left
              · simp only [Act.put, List.setIfInBounds_toArray, List.set_cons_zero, List.set_cons_succ, i64_w, i32_w]
                rfl
              refine pure_ (i := 26) (N := some 63) (v := ?_) (a' := ?_) #[true, true, true, true, true, true, true, true, true, true, true, true, true, true, true, true, true, true, true, true, true, true, true, false, true, true, true, false, false, false, false, false] rfl rfl (by kernel_rfl) (fun _ _ _ h => h) (Or.inl ⟨by rfl, ?_⟩) ?_ ?_
              rotate_left
              · intro w'
                go_simp
                with_reducible rfl
              rotate_left
              · simp only [Act.put, List.setIfInBounds_toArray, List.set_cons_zero, List.set_cons_succ, i64_w, i32_w]
                rfl
              refine pure_ (i := 27) (N := some 64) (v := ?_) (a' := ?_) #[true, true, true, true, true, true, true, true, true, true, true, true, true, true, true, true, true, true, true, true, true, true, true, false, true, true, true, true, false, false, false, false] rfl rfl (by kernel_rfl) (fun _ _ _ h => h) (Or.inl ⟨by rfl, ?_⟩) ?_ ?_
              rotate_left
              · intro w'
                go_simp
                with_reducible rfl
              rotate_left
              · simp only [Act.put, List.setIfInBounds_toArray, List.set_cons_zero, List.set_cons_succ, i64_w, i32_w]
                rfl
              refine take_ (i := 28) (N := some 65) (v := ?_) (a' := ?_) #[true, true, true, true, true, true, true, true, true, true, true, true, true, true, true, true, true, true, true, true, true, true, true, false, true, true, true, true, true, false, false, false] rfl rfl (by kernel_rfl) (fun _ _ _ h => h) (Or.inl ⟨by rfl, ?_⟩) hHeld ?_ ?_
              rotate_left
              · rintro w' ⟨s0, s1, s2, s3, s4, s5, s6, s7, s8, s9, s10⟩
                go_simp
                with_reducible rfl
              rotate_left
              · simp only [Act.put, List.setIfInBounds_toArray, List.set_cons_zero, List.set_cons_succ, i64_w, i32_w]
                rfl
              refine one_ (i := 23) (N := some 60) #[true, true, true, true, true, true, true, true, true, true, true, true, true, true, true, true, true, true, true, true, true, true, true, true, true, true, true, true, true, false, false, false] rfl rfl (by kernel_rfl) (by decide) (fun K hK => ?_)
              refine goes_ Try.func21 (by kernel_rfl) rfl #[.slice A n c, .agg #[.int .u8 k0, .int .u8 k1, .int .u8 k2, .int .u8 k3, .slice (some ⟨g, 0, none⟩) d cap, .int .i64 M, .int .i64 ce, .int .i64 co], .int .i64 cx] (by rfl) rfl rfl (by (try simp only [List.map_toArray, List.map_cons, List.map_nil]); first | done | rfl) ?_
              with_reducible refine (HSP.out _ HK8.out.1 ⟨hcA2, hcB2⟩).mono ?_
              rintro e8 w9 ⟨rfl, hb9⟩
              refine ⟨_, rfl, ?_⟩
              have HK9 := Aside0.mk (And.intro (HK8.out.1.then_below hb9) (HK8.out.2.below hb9))
              clear hb9
              refine hK.out _ _ (HS0.out _ HK9.out.1) (fun hHeld => ?_)
              clear hK K
              refine norm_ (a' := ?_) ?_ ?_
              rotate_left
              · show Act.put _ (some 60) _ = _
                simp only [Act.put, List.setIfInBounds_toArray, List.set_cons_zero, List.set_cons_succ, i64_w, i32_w]
                rfl
              refine pure_ (i := 29) (N := some 66) (v := ?_) (a' := ?_) #[true, true, true, true, true, true, true, true, true, true, true, true, true, true, true, true, true, true, true, true, true, true, true, true, true, true, true, true, true, true, false, false] rfl rfl (by kernel_rfl) (fun _ _ _ h => h) (Or.inl ⟨by rfl, ?_⟩) ?_ ?_
              rotate_left
              · intro w'
                go_simp
                with_reducible rfl
              rotate_left
              · simp only [Act.put, List.setIfInBounds_toArray, List.set_cons_zero, List.set_cons_succ, i64_w, i32_w]
                rfl
              refine pure_ (i := 30) (N := some 67) (v := ?_) (a' := ?_) #[true, true, true, true, true, true, true, true, true, true, true, true, true, true, true, true, true, true, true, true, true, true, true, true, true, true, true, true, true, true, true, false] rfl rfl (by kernel_rfl) (fun _ _ _ h => h) (Or.inl ⟨by rfl, ?_⟩) ?_ ?_
              rotate_left
              · intro w'
                go_simp
                with_reducible rfl
              rotate_left
              · simp only [Act.put, List.setIfInBounds_toArray, List.set_cons_zero, List.set_cons_succ, i64_w, i32_w]
                rfl
              refine pure_ (i := 31) (N := some 68) (v := ?_) (a' := ?_) #[true, true, true, true, true, true, true, true, true, true, true, true, true, true, true, true, true, true, true, true, true, true, true, true, true, true, true, true, true, true, true, true] rfl rfl (by kernel_rfl) (fun _ _ _ h => h) (Or.inl ⟨by rfl, ?_⟩) ?_ ?_
              rotate_left
              · intro w'
                go_simp
                with_reducible rfl
              rotate_left
              · simp only [Act.put, List.setIfInBounds_toArray, List.set_cons_zero, List.set_cons_succ, i64_w, i32_w]
                rfl
              refine done_ (by kernel_rfl) ?_
              go_upto_region 13 with fail
              obtain ⟨t0, t1, t2, t3, t4, t5, t6, t7, _⟩ := HS0.out _ HK9.out.1
              go_wp2_with fail
              go_roundw
              case rel => exact ⟨j + 1, o + d, t + co, by go_num, by go_num, by go_num, by omega, by omega, by omega, by omega, ⟨HN.out.1, HN.out.2⟩, ⟨HK9.out.1, by rw [HN.out.1, HST.out]; exact HK9.out.2⟩⟩
              case measure => simp [intOf]; omega
        · have hjm : j = m := by omega
          have hlen : ls.take j.toNat = ls := List.take_of_length_le (by rw [← HML.out]; omega)
          have hon : o = n := by rw [HX.out.1, hlen, HP.out.1.sum]
          have htk : t = k5 := by rw [HX.out.2, hlen, HKT.out]
          have HKE := Aside0.mk (below_step HB5.out.1 (Below.refl w5.heap.size w5))
          have HKF : Aside0 (Below w.heap.size w wr) := ⟨by
            have h1 : Kp (fun k => k = gs) w5 wr := (Kp.of_below (S := fun k => k = gs) HGS.out.2.2.1).step hK7
            exact below_step HB5.out.1 (h1.below_of (fun i hi => by rw [hi, HGS.out.1]; exact Nat.le_refl _))⟩
          subst hon
          subst htk
          clear hlen HX HW hK7 hjm
          go_wp2_with ((with_reducible refine (HAL.out _).mono ?_); rintro e6 w6 ⟨rfl, hb6⟩; have HB6 := Aside0.mk (below_step HKF.out hb6); clear hb6)
          go_ret
          exact ⟨rfl, HB6.out⟩
    · have hz : (x5 != 0) = true := by simpa using hx
      go_wp2_with ((with_reducible refine (HAL.out _).mono ?_); rintro e6 w6 ⟨rfl, hb6⟩; have HB6 := Aside0.mk (below_step H5.out.1 hb6); clear hb6)
      go_ret
      exact ⟨rfl, HB6.out⟩
  · have hd : decide ((n : Int) ≤ 140) = false := decide_eq_false h140
    rw [hd] at HFW
    go_enter Try.func3, Try.ntmps3
    go_wp2_with (first | ((with_reducible refine (HFW.out _).mono ?_); rintro e5 w5 ⟨rfl, rfl⟩) | ((with_reducible refine (HAL.out _).mono ?_); rintro e6 w6 ⟨rfl, hb6⟩; have HB6 := Aside0.mk (below_step H2.out.1 hb6); clear hb6))
    go_ret
    exact ⟨rfl, HB6.out⟩
end Go.Proofs.Ythkfahkkcjagdaa

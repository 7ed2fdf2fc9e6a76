/- What ClassingCheapest answers: its walk. -/
import Derived.Test.YthkfahkkcjagdaaMCh
import Derived.Test.YthkfahkkcjagdaaSh2
import Derived.Test.YthkfahkkcjagdaaWRepsOne
namespace Go.Proofs.Ythkfahkkcjagdaa
open Go.RowKit Go.Proofs.YthkfahkkcjagdaaW.PrintWords Go.Proofs.YthkfahkkcjagdaaW.PrintMore Go.Proofs.YthkfahkkcjagdaaW.PrintLast

/-- What the statement asks of a plan that is there, about the fleeces. -/
theorem cheap_fs {fs : List Fl} {l least p : Int} (hz : planE fs l least p = 0) :
    (planL fs l least p).length ≤ 16 ∧ ((planL fs l least p).length : Int) ≤ l ∧ (1 ≤ l ∧ l ≤ 16) ∧ fs.length ≤ 128 ∧ (fs.length = 0 ↔ (planL fs l least p).length = 0) ∧ (0 ≤ planC fs l least p ∧ planC fs l least p ≤ 1374252095766528) ∧
    costR fs l least p ((planL fs l least p).map fun x => (x.2 : Int)) = (planC fs l least p, 0) ∧
    (0 < fs.length → leastL (-1) (curveL (sF fs (ordF fs)) least p fs.length l.toNat) = planC fs l least p ∧ (curveL (sF fs (ordF fs)) least p fs.length l.toNat).getD ((planL fs l least p).length - 1) 0 = planC fs l least p) ∧
    (∀ ls v, costR fs l least p ls = (v, 0) → planC fs l least p ≤ v ∧ 0 ≤ v ∧ v ≤ 1374252095766528 ∧ ls.length ≤ 128) ∧
    (∀ c, 0 ≤ c → c ≤ 1125899906842624 → ∃ v, priceR fs l least p c = (v, 0) ∧ v ≤ planC fs l least p + c * (planL fs l least p).length ∧ ∀ ls u, costR fs l least p ls = (u, 0) → v ≤ u + c * ls.length) := by
  obtain ⟨hE, hb⟩ := planE_zero hz
  have hn := (errE_all hE).1
  have hsp := (errE_spec hE).1
  have hso := ordF_SOK (errE_all hE).2
  have e1 : planC fs l least p = bestF (sF fs (ordF fs)) least p fs.length (bestK (sF fs (ordF fs)) least p fs.length l.toNat) := by unfold planC; rw [if_pos hz]
  have e2 : planL fs l least p = planF (sF fs (ordF fs)) least p fs.length (bestK (sF fs (ordF fs)) least p fs.length l.toNat) 0 := by unfold planL; rw [if_pos hz]
  have e3 : ∀ ls, costR fs l least p ls = costV (sF fs (ordF fs)) fs.length l least p ls := fun ls => by unfold costR; rw [if_pos hE]
  have e4 : ∀ c, priceR fs l least p c = priceV (sF fs (ordF fs)) fs.length least p c := fun c => by unfold priceR; rw [if_pos hE]
  obtain ⟨h1, h2, h3, h4, h5, h6, h7, h8, h9⟩ := cheap_yes (least := least) (p := p) (show l = (l.toNat : Int) by omega) hso hn rfl hb (by omega)
  rw [e1, e2, planF_len]
  refine ⟨by omega, by omega, hsp, hn, h3, ⟨h4, h5⟩, by rw [e3]; exact h6, h7, fun ls v h => ?_, fun c hc1 hc2 => ?_⟩
  · rw [e3] at h
    refine ⟨(h8 ls v h).1, (h8 ls v h).2.1, (h8 ls v h).2.2, ?_⟩
    unfold costV at h
    split at h
    · simp at h
    · omega
  · rw [e4]
    obtain ⟨v, a1, a2, a3⟩ := h9 c hc1 hc2
    exact ⟨v, a1, a2, fun ls u h => a3 ls u (by rw [← e3]; exact h)⟩
theorem cheap_none {fs : List Fl} {l least p : Int} (hz : planE fs l least p ≠ 0) (ls : List Int) : (costR fs l least p ls).2 ≠ 0 ∧ planC fs l least p = 0 ∧ planL fs l least p = [] := by
  refine ⟨?_, by unfold planC; rw [if_neg hz], by unfold planL; rw [if_neg hz]⟩
  unfold costR
  by_cases hE : errE fs l least p = 0
  · rw [if_pos hE]
    have hsp := (errE_spec hE).1
    refine cheap_no (most := l.toNat) (by omega) (ordF_SOK (errE_all hE).2) (errE_all hE).1 (fun h => ?_) ls
    unfold planE at hz
    rw [if_pos hE, if_pos h] at hz
    exact hz rfl
  · rw [if_neg hE]; exact hE
/-- The lines' lengths. -/
def lenL (P : List (Nat × Nat)) : List Int := P.map fun x => (x.2 : Int)
theorem lenL_take {P : List (Nat × Nat)} {i : Nat} {x : Nat × Nat} (h : P[i]? = some x) : lenL (P.take (i + 1)) = lenL (P.take i) ++ [(x.2 : Int)] := by
  have hi := (List.getElem?_eq_some_iff.1 h).1
  have e := (List.getElem?_eq_some_iff.1 h).2
  unfold lenL
  rw [List.take_succ_eq_append_getElem hi, List.map_append, e]
  rfl
theorem info3j : (Try.prog.info? 3).map (fun i => (i.zero, i.size, i.bytes)) = some (some (.int .i64 0), (Kd.int .i64).sz, 8) := by kernel_rfl

theorem rowU {w : World} {x : Addr} {len cap : Nat} {zs : List Int} {k : IntKind} (hl : len ≤ cap) (hm : cap ≤ maxLen) (hz : zs.length = cap) (hc : ∀ i, i < zs.length → w.cell? (x.add i) = some (.int k (zs.getD i 0))) : (Kd.int k).C w (some x) len (zs.take len) := by
  refine ⟨by rw [List.length_take]; omega, by unfold maxLen at hm; omega, fun _ => ⟨x, rfl, fun j p hp => ⟨[.int k p], rfl, rfl, fun i u hu => ?_⟩⟩⟩
  have hj : j < len := by
    have := (List.getElem?_eq_some_iff.1 hp).1
    rw [List.length_take] at this
    omega
  rw [List.getElem?_take, if_pos hj] at hp
  have h1 := hc j (by omega)
  rw [List.getD_eq_getElem?_getD, hp] at h1
  have hi : i = 0 := by
    have := (List.getElem?_eq_some_iff.1 hu).1
    simpa using this
  subst hi
  rw [List.getElem?_cons_zero] at hu
  cases hu
  show w.cell? (x.add (j * 1 + 0)) = _
  rw [Nat.mul_one, Nat.add_zero]
  exact h1
set_option maxHeartbeats 8000000 in
set_option maxRecDepth 100000 in
theorem cheapest_any (w : World) (A B : Option Addr) (n c m cb : Nat) (fs : List Fl) (ls : List Int) (hn : fs.length = n) (h : kF.C w A n fs) (hk : KOK fs) (hr : (Kd.int .i64).C w B m ls) (l least p price : Int) :
    Calls Try.prog 11 #[.slice A n c, .agg #[.int .i64 l, .int .i64 least, .int .i64 p], .slice B m cb, .int .i64 price] w fun e w' => e = .returned (.bool true) ∧ Below w.heap.size w w' := by
  have hmax := Kd.C_max h
  have hmaxm := Kd.C_max hr
  have b1 := below_alloc (Below.refl w.heap.size w) (.cells #[.int .i64 l, .int .i64 least, .int .i64 p] 24)
  have q1 := Blk.new w [.int .i64 l, .int .i64 least, .int .i64 p] 24
  have s0 := q1.at_ (i := 0) rfl
  have s1 := q1.at_ (i := 1) rfl
  have s2 := q1.at_ (i := 2) rfl
  have HFW := Aside0.mk (fun W => few_any W A n c hmax)
  have HAL := Aside0.mk alive_any
  have HLI := Aside0.mk (lines_one _ A n c fs hn (Kd.C_below h b1) hk l least p)
  have HC := Aside0.mk (And.intro hk (And.intro hn (Kd.C_len hr)))
  have H1 := Aside0.mk (And.intro b1 (And.intro q1 (And.intro (Kd.C_below h b1) (Kd.C_below hr b1))))
  clear h hk hn b1 q1 hr
  by_cases h140 : (n : Int) ≤ 140
  · have hd : decide ((n : Int) ≤ 140) = true := decide_eq_true h140
    rw [hd] at HFW
    by_cases h300 : (m : Int) > 300
    · have hd3 : decide ((m : Int) > 300) = true := decide_eq_true h300
      have hd4 : decide (300 < (m : Int)) = true := decide_eq_true h300
      go_enter Try.func11, Try.ntmps11
      go_wp2_with (first | ((with_reducible refine (HFW.out _).mono ?_); rintro e5 w5 ⟨rfl, rfl⟩) | ((with_reducible refine (HAL.out _).mono ?_); rintro e6 w6 ⟨rfl, hb6⟩; have HB6 := Aside0.mk (below_step H1.out.1 hb6); clear hb6))
      go_ret
      exact ⟨rfl, HB6.out⟩
    · have hd3 : decide ((m : Int) > 300) = false := decide_eq_false h300
      have hd4 : decide (300 < (m : Int)) = false := decide_eq_false h300
      obtain ⟨C, hC⟩ : ∃ z, z = planC fs l least p := ⟨_, rfl⟩
      obtain ⟨E, hE⟩ : ∃ z, z = planE fs l least p := ⟨_, rfl⟩
      obtain ⟨o, ho⟩ : ∃ z, z = (costR fs l least p ls).1 := ⟨_, rfl⟩
      obtain ⟨f, hf⟩ : ∃ z, z = (costR fs l least p ls).2 := ⟨_, rfl⟩
      have HR := Aside0.mk (And.intro hC (And.intro hE (And.intro ho hf)))
      rw [← hC, ← hE] at HLI
      clear hC hE
      go_enter Try.func11, Try.ntmps11
      go_upto_region 4 with (first | ((with_reducible refine (HFW.out _).mono ?_); rintro e5 w5 ⟨rfl, rfl⟩) | ((with_reducible refine HLI.out.mono ?_); rintro e5 w5 ⟨v5, l5, rfl, hb5, hp5, hl5⟩; have H5 := Aside0.mk (And.intro (below_step H1.out.1 hb5) (And.intro (H1.out.2.1.below hb5) (And.intro (Kd.C_below H1.out.2.2.1 hb5) (And.intro (Kd.C_below H1.out.2.2.2 hb5) (And.intro hp5 hl5))))); clear hb5 hp5 hl5))
      clear s0 s1 s2
      have s0 := H5.out.2.1.at_ (i := 0) rfl
      have s1 := H5.out.2.1.at_ (i := 1) rfl
      have s2 := H5.out.2.1.at_ (i := 2) rfl
      have hco := cost_any w5 A B n c m cb fs ls HC.out.2.1 H5.out.2.2.1 HC.out.1 H5.out.2.2.2.1 l least p
      rw [← ho, ← hf] at hco
      have HCO := Aside0.mk hco
      clear hco ho hf
      go_upto_region 5 with ((with_reducible refine HCO.out.mono ?_); rintro e6 w6 ⟨rfl, hb6⟩; have H6 := Aside0.mk (And.intro (below_step H5.out.1 hb6) (And.intro (H5.out.2.1.below hb6) (And.intro (Kd.C_below H5.out.2.2.1 hb6) (And.intro (Kd.C_below H5.out.2.2.2.1 hb6) (And.intro (H5.out.2.2.2.2.1.below hb6) H5.out.2.2.2.2.2))))); clear hb6)
      clear s0 s1 s2 HCO H5 HLI
      obtain ⟨G, capG, hv, hcap, hget⟩ := H6.out.2.2.2.2.1.at_
      subst hv
      have hll : l5.length = (planL fs l least p).length := by rw [← H6.out.2.2.2.2.2, List.length_map]
      by_cases hE0 : E = 0
      · have hz : planE fs l least p = 0 := by rw [← HR.out.2.1]; exact hE0
        obtain ⟨a1, a2, ⟨a3, a4⟩, a5, a6, ⟨a7, a8⟩, a9, a10, a11, a12⟩ := cheap_fs hz
        rw [← HR.out.1] at a7 a8 a9 a10 a11 a12
        rw [← hll] at a1 a2 a6 a10 a12
        rw [HC.out.2.1] at a5 a6 a10
        have hoC : f = 0 → C ≤ o ∧ 0 ≤ o ∧ o ≤ 1374252095766528 ∧ m ≤ 128 := fun e => by
          have := a11 ls o (by rw [HR.out.2.2.1, ← e, HR.out.2.2.2])
          rw [HC.out.2.2] at this
          exact this
        have hpr : f = 0 → ∀ c, 0 ≤ c → c ≤ 1125899906842624 → ∃ v, priceR fs l least p c = (v, 0) ∧ v ≤ C + c * l5.length ∧ v ≤ o + c * m := fun e c hc1 hc2 => by
          obtain ⟨v, b1, b2, b3⟩ := a12 c hc1 hc2
          refine ⟨v, b1, b2, ?_⟩
          have := b3 ls o (by rw [HR.out.2.2.1, ← e, HR.out.2.2.2])
          rwa [HC.out.2.2] at this
        have hpr2 : ∀ c, 0 ≤ c → c ≤ 1125899906842624 → ∃ v, priceR fs l least p c = (v, 0) ∧ v ≤ C + c * l5.length := fun c hc1 hc2 => by
          obtain ⟨v, b1, b2, b3⟩ := a12 c hc1 hc2
          exact ⟨v, b1, b2⟩
        have HP := Aside0.mk (And.intro a9 (And.intro a10 (And.intro hoC (And.intro hpr hpr2))))
        have HA6 := Aside0.mk a6
        clear a9 a10 a11 a12 hpr hpr2 a6
        obtain ⟨K, hK⟩ : ∃ z, z = l5.length := ⟨_, rfl⟩
        have HG := Aside0.mk (And.intro hget (And.intro hll hK))
        rw [← hK] at a1 a2 hcap HP HA6 ⊢
        clear hget hll hK
        subst hE0
        obtain ⟨most, rfl⟩ : ∃ z : Nat, l = z := ⟨l.toNat, by omega⟩
        -- ARMS
        have HEZ : Aside0 (errE fs (most : Int) least p = 0) := ⟨(planE_zero hz).1⟩
        clear hz
        by_cases hf0 : f = 0
        · subst hf0
          obtain ⟨ho1, ho2, ho3, ho4⟩ := HP.out.2.2.1 rfl
          have do1 : decide (o < C) = false := decide_eq_false (by omega)
          go_wp2_with fail
          go_loopw [14, 15] (fun v14 v15 wr => ∃ i : Nat, v15 = .int .i64 i ∧ i ≤ K ∧ Aside0 ((Kd.int .i64).R 3 wr w6.heap.size (fun _ => True) v14 (lenL ((planL fs most least p).take i)) ∧ Below w6.heap.size w6 wr)) (fun _ v15 _ => K - (intOf v15).toNat)
          case atStart => exact ⟨0, rfl, by omega, ⟨by rw [List.take_zero]; exact Kd.R_nil _ _ _ _ _, Below.refl _ _⟩⟩
          case round =>
            obtain ⟨i, rfl, hi, HI⟩ := hrel
            by_cases hlt : i < K
            · have hlti : (i : Int) < K := by omega
              obtain ⟨ad, x, e1, hx, c0, c1, c2, c3, c4, _⟩ := HG.out.1 (i : Int) (by omega) (by rw [← HG.out.2.2]; exact hlti)
              subst e1
              rw [Int.toNat_natCast] at hx c4
              have c5 := cell_below HI.out.2 c4
              clear c0 c1 c2 c3 c4
              have hlp : (planL fs most least p)[i]? = some (x.2.2.1, x.2.2.2) := by rw [← H6.out.2.2.2.2.2, List.getElem?_map, hx]; rfl
              have hl2 := lenL_take hlp
              dsimp only at hl2
              obtain ⟨d, hd⟩ : ∃ z, z = x.2.2.2 := ⟨_, rfl⟩
              rw [← hd] at c5 hl2
              have HL2 := Aside0.mk hl2
              have hll : (lenL ((planL fs most least p).take i)).length ≤ 16 := by
                unfold lenL
                rw [List.length_map, List.length_take]
                omega
              have HLL := Aside0.mk hll
              clear hlp hl2 hx hd hll
              obtain ⟨x1, hx1⟩ : ∃ z, z = x.1 := ⟨_, rfl⟩
              obtain ⟨x2, hx2⟩ : ∃ z, z = x.2.1 := ⟨_, rfl⟩
              rw [← hx1, ← hx2] at c5
              clear hx1 hx2
              go_upto_region 12 with ((with_reducible refine gate_builtin (b := .append) (xs := #[.tmp 76, .tmp 83]) rfl ?_); at_builtin; refine Kd.R_append (Kd.int .i64) (w0 := w6) w6.heap.size rfl (.tmp 76) (.tmp 83) 35 3 (.int .i64 0) 8 rfl Try.underlying35 info3j rfl (by decide) (by decide) u14 (lenL ((planL fs most least p).take i)) (d : Int) [.int .i64 (d : Int)] (fun _ => True) (fun _ => False) rfl rfl ?aP (fun _ hk => hk.elim) ?aF ?aO ?aB ?aS ?aL ?_; (case aP => exact rfl); (case aB => exact HI.out.2); (case aF => exact (fun _ _ => trivial)); (case aO => exact HI.out.1); (case aS => exact HI.out.2.size); (case aL => have := HLL.out; omega); intro v3 w3 ho hb hg hat; have H3 := Aside0.mk (And.intro ho hb); clear ho hb hg hat)
              go_wp2_with fail
              go_roundw
              case rel => exact ⟨i + 1, by go_num, by omega, ⟨by rw [HL2.out]; exact H3.out.1, H3.out.2⟩⟩
              case measure => simp [intOf]; omega
            · have hlti : ¬ (i : Int) < K := by omega
              have hik : i = K := by omega
              obtain ⟨A14, c14, hv14, hc14, hr14⟩ := Kd.R_reads HI.out.1
              have htk : (planL fs most least p).take i = planL fs most least p := List.take_of_length_le (by rw [← HG.out.2.1, ← HG.out.2.2]; omega)
              have hlen : (lenL (planL fs most least p)).length = K := by unfold lenL; rw [List.length_map, ← HG.out.2.1, ← HG.out.2.2]
              rw [htk, hlen] at hv14 hc14 hr14
              subst hv14
              have hco := cost_any wr A A14 n c K c14 fs (lenL (planL fs most least p)) HC.out.2.1 (Kd.C_below H6.out.2.2.1 HI.out.2) HC.out.1 hr14 most least p
              have hc0 : costR fs most least p (lenL (planL fs most least p)) = (C, 0) := HP.out.1
              rw [hc0] at hco
              have HCO := Aside0.mk hco
              have s0 := (H6.out.2.1.below HI.out.2).at_ (i := 0) rfl
              have s1 := (H6.out.2.1.below HI.out.2).at_ (i := 1) rfl
              have s2 := (H6.out.2.1.below HI.out.2).at_ (i := 2) rfl
              clear hco hc0 htk hlen hr14
              go_upto_region 15 with ((with_reducible refine HCO.out.mono ?_); rintro e7 w7 ⟨rfl, hb7⟩; have H7 := Aside0.mk (And.intro (below_step H6.out.1 (below_step HI.out.2 hb7)) (And.intro ((H6.out.2.1.below HI.out.2).below hb7) (Kd.C_below (Kd.C_below H6.out.2.2.1 HI.out.2) hb7))); clear hb7)
              clear s0 s1 s2 HCO
              have s0 := H7.out.2.1.at_ (i := 0) rfl
              have s1 := H7.out.2.1.at_ (i := 1) rfl
              have s2 := H7.out.2.1.at_ (i := 2) rfl
              have HCU := Aside0.mk (curve_any w7 A n c fs HC.out.2.1 H7.out.2.2 HC.out.1 most least p)
              go_upto_region 16 with ((with_reducible refine HCU.out.mono ?_); rintro e8 w8 hp8; unfold CurvePost at hp8; rw [if_pos HEZ.out, Int.toNat_natCast] at hp8; obtain ⟨hb8, gc, rfl, hq8⟩ := hp8; have H8 := Aside0.mk hq8; have HW8 := Aside0.mk (And.intro (below_step H7.out.1 hb8) (And.intro (H7.out.2.1.below hb8) (Kd.C_below H7.out.2.2 hb8))); clear hb8 hq8)
              clear s0 s1 s2 HCU
              have s0 := HW8.out.2.1.at_ (i := 0) rfl
              obtain ⟨bz, hbz1, hbz2⟩ : ∃ b, ((K : Int) == 0) = b ∧ ((n : Int) == 0) = b := by
                by_cases h0 : n = 0
                · have := HA6.out.1 h0
                  exact ⟨true, by simpa using this, by simpa using h0⟩
                · have : ¬ K = 0 := fun e => h0 (HA6.out.2 e)
                  exact ⟨false, by simpa using this, by simpa using h0⟩
              have dk1 : decide ((K : Int) > (most : Int)) = false := decide_eq_false (by omega)
              have hCV : Aside0 (fs.length = n) := ⟨HC.out.2.1⟩
              clear hik hi hlti hlt
              go_upto_region 20 with fail
              clear s0 hbz1 hbz2 dk1
              obtain ⟨cu, hcu⟩ : ∃ z, z = curveL (sF fs (ordF fs)) least p fs.length most := ⟨_, rfl⟩
              have hcl : cu.length = most := by rw [hcu, curveL_length]
              rw [← hcu] at H8
              have HCU := Aside0.mk (And.intro hcu hcl); clear hcu hcl
              go_loopw [20, 21] (fun v20 v21 wr => ∃ (j : Nat) (x : Int), v20 = .int .i64 x ∧ v21 = .int .i64 j ∧ j ≤ most ∧ Aside0 (leastL x (cu.drop j) = leastL (-1) cu) ∧ ∃ q, wr = w8.drewN q) (fun _ v21 _ => most - (intOf v21).toNat)
              case atStart => exact ⟨0, -1, rfl, rfl, by omega, ⟨rfl⟩, 0, rfl⟩
              case round =>
                obtain ⟨j, x, rfl, rfl, hj, HX, q8, rfl⟩ := hrel
                by_cases hjt : j < most
                · have hjti : (j : Int) < most := by omega
                  have cc := H8.out.at_ (ints_get cu (i := j) (by rw [HCU.out.2]; exact hjt))
                  have hdr : cu.drop j = cu.getD j 0 :: cu.drop (j + 1) := by
                    have := rd_drop cu (j := j) (by rw [HCU.out.2]; exact hjt)
                    unfold rd at this
                    rwa [Int.toNat_natCast] at this
                  obtain ⟨y, hy⟩ : ∃ z, z = cu.getD j 0 := ⟨_, rfl⟩
                  rw [← hy] at cc hdr
                  have HY := Aside0.mk hdr; clear hdr hy
                  by_cases hy0 : 0 ≤ y
                  · have dy0 : decide (0 ≤ y) = true := decide_eq_true hy0
                    by_cases hx0 : x < 0
                    · have dx0 : decide (x < 0) = true := decide_eq_true hx0
                      have HX2 : Aside0 (leastL y (cu.drop (j + 1)) = leastL (-1) cu) := ⟨by rw [← HX.out, HY.out, leastL, if_pos ⟨hy0, .inl hx0⟩]⟩
                      clear HX HY
                      go_wp2_with fail
                      go_roundw
                      case rel => exact ⟨j + 1, y, by go_num, by go_num, by omega, HX2, _, rfl⟩
                      case measure => simp [intOf]; omega
                    · have dx0 : decide (x < 0) = false := decide_eq_false hx0
                      by_cases hyx : y < x
                      · have dyx : decide (y < x) = true := decide_eq_true hyx
                        have HX2 : Aside0 (leastL y (cu.drop (j + 1)) = leastL (-1) cu) := ⟨by rw [← HX.out, HY.out, leastL, if_pos ⟨hy0, .inr hyx⟩]⟩
                        clear HX HY
                        go_wp2_with fail
                        go_roundw
                        case rel => exact ⟨j + 1, y, by go_num, by go_num, by omega, HX2, _, rfl⟩
                        case measure => simp [intOf]; omega
                      · have dyx : decide (y < x) = false := decide_eq_false hyx
                        have HX2 : Aside0 (leastL x (cu.drop (j + 1)) = leastL (-1) cu) := ⟨by rw [← HX.out, HY.out, leastL, if_neg (by omega)]⟩
                        clear HX HY
                        go_wp2_with fail
                        go_roundw
                        case rel => exact ⟨j + 1, x, by go_num, by go_num, by omega, HX2, _, rfl⟩
                        case measure => simp [intOf]; omega
                  · have dy0 : decide (0 ≤ y) = false := decide_eq_false hy0
                    have HX2 : Aside0 (leastL x (cu.drop (j + 1)) = leastL (-1) cu) := ⟨by rw [← HX.out, HY.out, leastL, if_neg (by omega)]⟩
                    clear HX HY
                    go_wp2_with fail
                    go_roundw
                    case rel => exact ⟨j + 1, x, by go_num, by go_num, by omega, HX2, _, rfl⟩
                    case measure => simp [intOf]; omega
                · have hjti : ¬ (j : Int) < most := by omega
                  have hxl : x = leastL (-1) cu := by
                    rw [← HX.out, List.drop_of_length_le (by rw [HCU.out.2]; omega)]
                    rfl
                  clear HX
                  by_cases hn0 : (n : Int) > 0
                  · have dn : decide ((n : Int) > 0) = true := decide_eq_true hn0
                    have hpp := HP.out.2.1 (by omega)
                    have hxc : x = C := by
                      rw [hxl, HCU.out.1, HC.out.2.1]
                      exact hpp.1
                    subst hxc
                    obtain ⟨k', hk'⟩ : ∃ k', K = k' + 1 := by
                      refine ⟨K - 1, ?_⟩
                      have : ¬ K = 0 := fun e => by have := HA6.out.2 e; omega
                      omega
                    have hcc : cu.getD k' 0 = x := by
                      have := hpp.2
                      rw [hk'] at this
                      rw [HCU.out.1, HC.out.2.1]
                      exact this
                    have cc := H8.out.at_ (ints_get cu (i := k') (by rw [HCU.out.2]; omega))
                    rw [hcc] at cc
                    have q1 : ((K : Int) - 1).toNat = k' := by omega
                    have q2 : (0 : Int) ≤ (K : Int) - 1 := by omega
                    have q3 : (K : Int) - 1 < most := by omega
                    have q4 : (K : Int) - 1 = k' := by omega
                    have q5 : k' < most := by omega
                    clear hcc hpp hxl hk'
                    go_upto_region 26 with fail
                    clear cc
                    by_cases hp1 : price < 0
                    · have dp1 : decide (price < 0) = true := decide_eq_true hp1
                      go_wp2_with ((with_reducible refine (HAL.out _).mono ?_); rintro e20 w20 ⟨rfl, hb20⟩; have HB20 := Aside0.mk (below_step (below_step HW8.out.1 (bdN w8 q8)) hb20); clear hb20)
                      go_ret
                      exact ⟨rfl, HB20.out⟩
                    by_cases hp2 : price > 1125899906842624
                    · have dp1 : decide (price < 0) = false := decide_eq_false hp1
                      have dp2 : decide (price > 1125899906842624) = true := decide_eq_true hp2
                      go_wp2_with ((with_reducible refine (HAL.out _).mono ?_); rintro e20 w20 ⟨rfl, hb20⟩; have HB20 := Aside0.mk (below_step (below_step HW8.out.1 (bdN w8 q8)) hb20); clear hb20)
                      go_ret
                      exact ⟨rfl, HB20.out⟩
                    have dp1 : decide (price < 0) = false := decide_eq_false hp1
                    have dp2 : decide (price > 1125899906842624) = false := decide_eq_false hp2
                    obtain ⟨v, hv, hv1, hv2⟩ := HP.out.2.2.2.1 (by first | rfl | trivial) price (by omega) (by omega)
                    have hP2 := mul_bd (x := price) (y := (m : Int)) (a := 1125899906842624) (b := 128) (by omega) (by omega) (by omega) (by omega)
                    obtain ⟨P2, hPP2⟩ : ∃ z, z = price * (m : Int) := ⟨_, rfl⟩
                    rw [← hPP2] at hP2 hv2
                    have hPQ2 := hPP2.symm
                    clear hPP2
                    obtain ⟨hP20, hP21⟩ := hP2
                    have dv2 : decide (v ≤ o + P2) = true := decide_eq_true hv2
                    have hP1 := mul_bd (x := price) (y := (K : Int)) (a := 1125899906842624) (b := 16) (by omega) (by omega) (by omega) (by omega)
                    obtain ⟨P1, hPP1⟩ : ∃ z, z = price * (K : Int) := ⟨_, rfl⟩
                    rw [← hPP1] at hP1 hv1
                    have hPQ1 := hPP1.symm
                    clear hPP1
                    obtain ⟨hP10, hP11⟩ := hP1
                    have dv1 : decide (v ≤ x + P1) = true := decide_eq_true hv1
                    have hpr := price_any (w8.drewN q8) A n c fs HC.out.2.1 (Kd.C_below HW8.out.2.2 (bdN _ _)) HC.out.1 most least p price
                    rw [hv] at hpr
                    have HPR := Aside0.mk hpr
                    have s0 := (HW8.out.2.1.drewN q8).at_ (i := 0) rfl
                    have s1 := (HW8.out.2.1.drewN q8).at_ (i := 1) rfl
                    have s2 := (HW8.out.2.1.drewN q8).at_ (i := 2) rfl
                    clear hpr hv
                    go_upto_region 29 with ((with_reducible refine HPR.out.mono ?_); rintro e9 w9 ⟨rfl, hb9⟩; have HB9 := Aside0.mk (below_step HW8.out.1 (below_step (bdN w8 q8) hb9)); clear hb9)
                    clear s0 s1 s2
                    go_wp2_with ((with_reducible refine (HAL.out _).mono ?_); rintro e20 w20 ⟨rfl, hb20⟩; have HB20 := Aside0.mk (below_step HB9.out hb20); clear hb20)
                    go_ret
                    exact ⟨rfl, HB20.out⟩
                  · have dn : decide ((n : Int) > 0) = false := decide_eq_false hn0
                    go_upto_region 26 with fail
                    by_cases hp1 : price < 0
                    · have dp1 : decide (price < 0) = true := decide_eq_true hp1
                      go_wp2_with ((with_reducible refine (HAL.out _).mono ?_); rintro e20 w20 ⟨rfl, hb20⟩; have HB20 := Aside0.mk (below_step (below_step HW8.out.1 (bdN w8 q8)) hb20); clear hb20)
                      go_ret
                      exact ⟨rfl, HB20.out⟩
                    by_cases hp2 : price > 1125899906842624
                    · have dp1 : decide (price < 0) = false := decide_eq_false hp1
                      have dp2 : decide (price > 1125899906842624) = true := decide_eq_true hp2
                      go_wp2_with ((with_reducible refine (HAL.out _).mono ?_); rintro e20 w20 ⟨rfl, hb20⟩; have HB20 := Aside0.mk (below_step (below_step HW8.out.1 (bdN w8 q8)) hb20); clear hb20)
                      go_ret
                      exact ⟨rfl, HB20.out⟩
                    have dp1 : decide (price < 0) = false := decide_eq_false hp1
                    have dp2 : decide (price > 1125899906842624) = false := decide_eq_false hp2
                    obtain ⟨v, hv, hv1, hv2⟩ := HP.out.2.2.2.1 (by first | rfl | trivial) price (by omega) (by omega)
                    have hP2 := mul_bd (x := price) (y := (m : Int)) (a := 1125899906842624) (b := 128) (by omega) (by omega) (by omega) (by omega)
                    obtain ⟨P2, hPP2⟩ : ∃ z, z = price * (m : Int) := ⟨_, rfl⟩
                    rw [← hPP2] at hP2 hv2
                    have hPQ2 := hPP2.symm
                    clear hPP2
                    obtain ⟨hP20, hP21⟩ := hP2
                    have dv2 : decide (v ≤ o + P2) = true := decide_eq_true hv2
                    have hP1 := mul_bd (x := price) (y := (K : Int)) (a := 1125899906842624) (b := 16) (by omega) (by omega) (by omega) (by omega)
                    obtain ⟨P1, hPP1⟩ : ∃ z, z = price * (K : Int) := ⟨_, rfl⟩
                    rw [← hPP1] at hP1 hv1
                    have hPQ1 := hPP1.symm
                    clear hPP1
                    obtain ⟨hP10, hP11⟩ := hP1
                    have dv1 : decide (v ≤ C + P1) = true := decide_eq_true hv1
                    have hpr := price_any (w8.drewN q8) A n c fs HC.out.2.1 (Kd.C_below HW8.out.2.2 (bdN _ _)) HC.out.1 most least p price
                    rw [hv] at hpr
                    have HPR := Aside0.mk hpr
                    have s0 := (HW8.out.2.1.drewN q8).at_ (i := 0) rfl
                    have s1 := (HW8.out.2.1.drewN q8).at_ (i := 1) rfl
                    have s2 := (HW8.out.2.1.drewN q8).at_ (i := 2) rfl
                    clear hpr hv
                    go_upto_region 29 with ((with_reducible refine HPR.out.mono ?_); rintro e9 w9 ⟨rfl, hb9⟩; have HB9 := Aside0.mk (below_step HW8.out.1 (below_step (bdN w8 q8) hb9)); clear hb9)
                    clear s0 s1 s2
                    go_wp2_with ((with_reducible refine (HAL.out _).mono ?_); rintro e20 w20 ⟨rfl, hb20⟩; have HB20 := Aside0.mk (below_step HB9.out hb20); clear hb20)
                    go_ret
                    exact ⟨rfl, HB20.out⟩
        · have hfb : (f == 0) = false := by simpa using hf0
          have hfb2 : (f != 0) = true := by simpa using hf0
          go_wp2_with fail
          go_loopw [14, 15] (fun v14 v15 wr => ∃ i : Nat, v15 = .int .i64 i ∧ i ≤ K ∧ Aside0 ((Kd.int .i64).R 3 wr w6.heap.size (fun _ => True) v14 (lenL ((planL fs most least p).take i)) ∧ Below w6.heap.size w6 wr)) (fun _ v15 _ => K - (intOf v15).toNat)
          case atStart => exact ⟨0, rfl, by omega, ⟨by rw [List.take_zero]; exact Kd.R_nil _ _ _ _ _, Below.refl _ _⟩⟩
          case round =>
            obtain ⟨i, rfl, hi, HI⟩ := hrel
            by_cases hlt : i < K
            · have hlti : (i : Int) < K := by omega
              obtain ⟨ad, x, e1, hx, c0, c1, c2, c3, c4, _⟩ := HG.out.1 (i : Int) (by omega) (by rw [← HG.out.2.2]; exact hlti)
              subst e1
              rw [Int.toNat_natCast] at hx c4
              have c5 := cell_below HI.out.2 c4
              clear c0 c1 c2 c3 c4
              have hlp : (planL fs most least p)[i]? = some (x.2.2.1, x.2.2.2) := by rw [← H6.out.2.2.2.2.2, List.getElem?_map, hx]; rfl
              have hl2 := lenL_take hlp
              dsimp only at hl2
              obtain ⟨d, hd⟩ : ∃ z, z = x.2.2.2 := ⟨_, rfl⟩
              rw [← hd] at c5 hl2
              have HL2 := Aside0.mk hl2
              have hll : (lenL ((planL fs most least p).take i)).length ≤ 16 := by
                unfold lenL
                rw [List.length_map, List.length_take]
                omega
              have HLL := Aside0.mk hll
              clear hlp hl2 hx hd hll
              obtain ⟨x1, hx1⟩ : ∃ z, z = x.1 := ⟨_, rfl⟩
              obtain ⟨x2, hx2⟩ : ∃ z, z = x.2.1 := ⟨_, rfl⟩
              rw [← hx1, ← hx2] at c5
              clear hx1 hx2
              go_upto_region 12 with ((with_reducible refine gate_builtin (b := .append) (xs := #[.tmp 76, .tmp 83]) rfl ?_); at_builtin; refine Kd.R_append (Kd.int .i64) (w0 := w6) w6.heap.size rfl (.tmp 76) (.tmp 83) 35 3 (.int .i64 0) 8 rfl Try.underlying35 info3j rfl (by decide) (by decide) u14 (lenL ((planL fs most least p).take i)) (d : Int) [.int .i64 (d : Int)] (fun _ => True) (fun _ => False) rfl rfl ?aP (fun _ hk => hk.elim) ?aF ?aO ?aB ?aS ?aL ?_; (case aP => exact rfl); (case aB => exact HI.out.2); (case aF => exact (fun _ _ => trivial)); (case aO => exact HI.out.1); (case aS => exact HI.out.2.size); (case aL => have := HLL.out; omega); intro v3 w3 ho hb hg hat; have H3 := Aside0.mk (And.intro ho hb); clear ho hb hg hat)
              go_wp2_with fail
              go_roundw
              case rel => exact ⟨i + 1, by go_num, by omega, ⟨by rw [HL2.out]; exact H3.out.1, H3.out.2⟩⟩
              case measure => simp [intOf]; omega
            · have hlti : ¬ (i : Int) < K := by omega
              have hik : i = K := by omega
              obtain ⟨A14, c14, hv14, hc14, hr14⟩ := Kd.R_reads HI.out.1
              have htk : (planL fs most least p).take i = planL fs most least p := List.take_of_length_le (by rw [← HG.out.2.1, ← HG.out.2.2]; omega)
              have hlen : (lenL (planL fs most least p)).length = K := by unfold lenL; rw [List.length_map, ← HG.out.2.1, ← HG.out.2.2]
              rw [htk, hlen] at hv14 hc14 hr14
              subst hv14
              have hco := cost_any wr A A14 n c K c14 fs (lenL (planL fs most least p)) HC.out.2.1 (Kd.C_below H6.out.2.2.1 HI.out.2) HC.out.1 hr14 most least p
              have hc0 : costR fs most least p (lenL (planL fs most least p)) = (C, 0) := HP.out.1
              rw [hc0] at hco
              have HCO := Aside0.mk hco
              have s0 := (H6.out.2.1.below HI.out.2).at_ (i := 0) rfl
              have s1 := (H6.out.2.1.below HI.out.2).at_ (i := 1) rfl
              have s2 := (H6.out.2.1.below HI.out.2).at_ (i := 2) rfl
              clear hco hc0 htk hlen hr14
              go_upto_region 15 with ((with_reducible refine HCO.out.mono ?_); rintro e7 w7 ⟨rfl, hb7⟩; have H7 := Aside0.mk (And.intro (below_step H6.out.1 (below_step HI.out.2 hb7)) (And.intro ((H6.out.2.1.below HI.out.2).below hb7) (Kd.C_below (Kd.C_below H6.out.2.2.1 HI.out.2) hb7))); clear hb7)
              clear s0 s1 s2 HCO
              have s0 := H7.out.2.1.at_ (i := 0) rfl
              have s1 := H7.out.2.1.at_ (i := 1) rfl
              have s2 := H7.out.2.1.at_ (i := 2) rfl
              have HCU := Aside0.mk (curve_any w7 A n c fs HC.out.2.1 H7.out.2.2 HC.out.1 most least p)
              go_upto_region 16 with ((with_reducible refine HCU.out.mono ?_); rintro e8 w8 hp8; unfold CurvePost at hp8; rw [if_pos HEZ.out, Int.toNat_natCast] at hp8; obtain ⟨hb8, gc, rfl, hq8⟩ := hp8; have H8 := Aside0.mk hq8; have HW8 := Aside0.mk (And.intro (below_step H7.out.1 hb8) (And.intro (H7.out.2.1.below hb8) (Kd.C_below H7.out.2.2 hb8))); clear hb8 hq8)
              clear s0 s1 s2 HCU
              have s0 := HW8.out.2.1.at_ (i := 0) rfl
              obtain ⟨bz, hbz1, hbz2⟩ : ∃ b, ((K : Int) == 0) = b ∧ ((n : Int) == 0) = b := by
                by_cases h0 : n = 0
                · have := HA6.out.1 h0
                  exact ⟨true, by simpa using this, by simpa using h0⟩
                · have : ¬ K = 0 := fun e => h0 (HA6.out.2 e)
                  exact ⟨false, by simpa using this, by simpa using h0⟩
              have dk1 : decide ((K : Int) > (most : Int)) = false := decide_eq_false (by omega)
              have hCV : Aside0 (fs.length = n) := ⟨HC.out.2.1⟩
              clear hik hi hlti hlt
              go_upto_region 20 with fail
              clear s0 hbz1 hbz2 dk1
              obtain ⟨cu, hcu⟩ : ∃ z, z = curveL (sF fs (ordF fs)) least p fs.length most := ⟨_, rfl⟩
              have hcl : cu.length = most := by rw [hcu, curveL_length]
              rw [← hcu] at H8
              have HCU := Aside0.mk (And.intro hcu hcl); clear hcu hcl
              go_loopw [20, 21] (fun v20 v21 wr => ∃ (j : Nat) (x : Int), v20 = .int .i64 x ∧ v21 = .int .i64 j ∧ j ≤ most ∧ Aside0 (leastL x (cu.drop j) = leastL (-1) cu) ∧ ∃ q, wr = w8.drewN q) (fun _ v21 _ => most - (intOf v21).toNat)
              case atStart => exact ⟨0, -1, rfl, rfl, by omega, ⟨rfl⟩, 0, rfl⟩
              case round =>
                obtain ⟨j, x, rfl, rfl, hj, HX, q8, rfl⟩ := hrel
                by_cases hjt : j < most
                · have hjti : (j : Int) < most := by omega
                  have cc := H8.out.at_ (ints_get cu (i := j) (by rw [HCU.out.2]; exact hjt))
                  have hdr : cu.drop j = cu.getD j 0 :: cu.drop (j + 1) := by
                    have := rd_drop cu (j := j) (by rw [HCU.out.2]; exact hjt)
                    unfold rd at this
                    rwa [Int.toNat_natCast] at this
                  obtain ⟨y, hy⟩ : ∃ z, z = cu.getD j 0 := ⟨_, rfl⟩
                  rw [← hy] at cc hdr
                  have HY := Aside0.mk hdr; clear hdr hy
                  by_cases hy0 : 0 ≤ y
                  · have dy0 : decide (0 ≤ y) = true := decide_eq_true hy0
                    by_cases hx0 : x < 0
                    · have dx0 : decide (x < 0) = true := decide_eq_true hx0
                      have HX2 : Aside0 (leastL y (cu.drop (j + 1)) = leastL (-1) cu) := ⟨by rw [← HX.out, HY.out, leastL, if_pos ⟨hy0, .inl hx0⟩]⟩
                      clear HX HY
                      go_wp2_with fail
                      go_roundw
                      case rel => exact ⟨j + 1, y, by go_num, by go_num, by omega, HX2, _, rfl⟩
                      case measure => simp [intOf]; omega
                    · have dx0 : decide (x < 0) = false := decide_eq_false hx0
                      by_cases hyx : y < x
                      · have dyx : decide (y < x) = true := decide_eq_true hyx
                        have HX2 : Aside0 (leastL y (cu.drop (j + 1)) = leastL (-1) cu) := ⟨by rw [← HX.out, HY.out, leastL, if_pos ⟨hy0, .inr hyx⟩]⟩
                        clear HX HY
                        go_wp2_with fail
                        go_roundw
                        case rel => exact ⟨j + 1, y, by go_num, by go_num, by omega, HX2, _, rfl⟩
                        case measure => simp [intOf]; omega
                      · have dyx : decide (y < x) = false := decide_eq_false hyx
                        have HX2 : Aside0 (leastL x (cu.drop (j + 1)) = leastL (-1) cu) := ⟨by rw [← HX.out, HY.out, leastL, if_neg (by omega)]⟩
                        clear HX HY
                        go_wp2_with fail
                        go_roundw
                        case rel => exact ⟨j + 1, x, by go_num, by go_num, by omega, HX2, _, rfl⟩
                        case measure => simp [intOf]; omega
                  · have dy0 : decide (0 ≤ y) = false := decide_eq_false hy0
                    have HX2 : Aside0 (leastL x (cu.drop (j + 1)) = leastL (-1) cu) := ⟨by rw [← HX.out, HY.out, leastL, if_neg (by omega)]⟩
                    clear HX HY
                    go_wp2_with fail
                    go_roundw
                    case rel => exact ⟨j + 1, x, by go_num, by go_num, by omega, HX2, _, rfl⟩
                    case measure => simp [intOf]; omega
                · have hjti : ¬ (j : Int) < most := by omega
                  have hxl : x = leastL (-1) cu := by
                    rw [← HX.out, List.drop_of_length_le (by rw [HCU.out.2]; omega)]
                    rfl
                  clear HX
                  by_cases hn0 : (n : Int) > 0
                  · have dn : decide ((n : Int) > 0) = true := decide_eq_true hn0
                    have hpp := HP.out.2.1 (by omega)
                    have hxc : x = C := by
                      rw [hxl, HCU.out.1, HC.out.2.1]
                      exact hpp.1
                    subst hxc
                    obtain ⟨k', hk'⟩ : ∃ k', K = k' + 1 := by
                      refine ⟨K - 1, ?_⟩
                      have : ¬ K = 0 := fun e => by have := HA6.out.2 e; omega
                      omega
                    have hcc : cu.getD k' 0 = x := by
                      have := hpp.2
                      rw [hk'] at this
                      rw [HCU.out.1, HC.out.2.1]
                      exact this
                    have cc := H8.out.at_ (ints_get cu (i := k') (by rw [HCU.out.2]; omega))
                    rw [hcc] at cc
                    have q1 : ((K : Int) - 1).toNat = k' := by omega
                    have q2 : (0 : Int) ≤ (K : Int) - 1 := by omega
                    have q3 : (K : Int) - 1 < most := by omega
                    have q4 : (K : Int) - 1 = k' := by omega
                    have q5 : k' < most := by omega
                    clear hcc hpp hxl hk'
                    go_upto_region 26 with fail
                    clear cc
                    by_cases hp1 : price < 0
                    · have dp1 : decide (price < 0) = true := decide_eq_true hp1
                      go_wp2_with ((with_reducible refine (HAL.out _).mono ?_); rintro e20 w20 ⟨rfl, hb20⟩; have HB20 := Aside0.mk (below_step (below_step HW8.out.1 (bdN w8 q8)) hb20); clear hb20)
                      go_ret
                      exact ⟨rfl, HB20.out⟩
                    by_cases hp2 : price > 1125899906842624
                    · have dp1 : decide (price < 0) = false := decide_eq_false hp1
                      have dp2 : decide (price > 1125899906842624) = true := decide_eq_true hp2
                      go_wp2_with ((with_reducible refine (HAL.out _).mono ?_); rintro e20 w20 ⟨rfl, hb20⟩; have HB20 := Aside0.mk (below_step (below_step HW8.out.1 (bdN w8 q8)) hb20); clear hb20)
                      go_ret
                      exact ⟨rfl, HB20.out⟩
                    have dp1 : decide (price < 0) = false := decide_eq_false hp1
                    have dp2 : decide (price > 1125899906842624) = false := decide_eq_false hp2
                    obtain ⟨v, hv, hv1⟩ := HP.out.2.2.2.2 price (by omega) (by omega)
                    have hP1 := mul_bd (x := price) (y := (K : Int)) (a := 1125899906842624) (b := 16) (by omega) (by omega) (by omega) (by omega)
                    obtain ⟨P1, hPP1⟩ : ∃ z, z = price * (K : Int) := ⟨_, rfl⟩
                    rw [← hPP1] at hP1 hv1
                    have hPQ1 := hPP1.symm
                    clear hPP1
                    obtain ⟨hP10, hP11⟩ := hP1
                    have dv1 : decide (v ≤ x + P1) = true := decide_eq_true hv1
                    have hpr := price_any (w8.drewN q8) A n c fs HC.out.2.1 (Kd.C_below HW8.out.2.2 (bdN _ _)) HC.out.1 most least p price
                    rw [hv] at hpr
                    have HPR := Aside0.mk hpr
                    have s0 := (HW8.out.2.1.drewN q8).at_ (i := 0) rfl
                    have s1 := (HW8.out.2.1.drewN q8).at_ (i := 1) rfl
                    have s2 := (HW8.out.2.1.drewN q8).at_ (i := 2) rfl
                    clear hpr hv
                    go_upto_region 29 with ((with_reducible refine HPR.out.mono ?_); rintro e9 w9 ⟨rfl, hb9⟩; have HB9 := Aside0.mk (below_step HW8.out.1 (below_step (bdN w8 q8) hb9)); clear hb9)
                    clear s0 s1 s2
                    go_wp2_with ((with_reducible refine (HAL.out _).mono ?_); rintro e20 w20 ⟨rfl, hb20⟩; have HB20 := Aside0.mk (below_step HB9.out hb20); clear hb20)
                    go_ret
                    exact ⟨rfl, HB20.out⟩
                  · have dn : decide ((n : Int) > 0) = false := decide_eq_false hn0
                    go_upto_region 26 with fail
                    by_cases hp1 : price < 0
                    · have dp1 : decide (price < 0) = true := decide_eq_true hp1
                      go_wp2_with ((with_reducible refine (HAL.out _).mono ?_); rintro e20 w20 ⟨rfl, hb20⟩; have HB20 := Aside0.mk (below_step (below_step HW8.out.1 (bdN w8 q8)) hb20); clear hb20)
                      go_ret
                      exact ⟨rfl, HB20.out⟩
                    by_cases hp2 : price > 1125899906842624
                    · have dp1 : decide (price < 0) = false := decide_eq_false hp1
                      have dp2 : decide (price > 1125899906842624) = true := decide_eq_true hp2
                      go_wp2_with ((with_reducible refine (HAL.out _).mono ?_); rintro e20 w20 ⟨rfl, hb20⟩; have HB20 := Aside0.mk (below_step (below_step HW8.out.1 (bdN w8 q8)) hb20); clear hb20)
                      go_ret
                      exact ⟨rfl, HB20.out⟩
                    have dp1 : decide (price < 0) = false := decide_eq_false hp1
                    have dp2 : decide (price > 1125899906842624) = false := decide_eq_false hp2
                    obtain ⟨v, hv, hv1⟩ := HP.out.2.2.2.2 price (by omega) (by omega)
                    have hP1 := mul_bd (x := price) (y := (K : Int)) (a := 1125899906842624) (b := 16) (by omega) (by omega) (by omega) (by omega)
                    obtain ⟨P1, hPP1⟩ : ∃ z, z = price * (K : Int) := ⟨_, rfl⟩
                    rw [← hPP1] at hP1 hv1
                    have hPQ1 := hPP1.symm
                    clear hPP1
                    obtain ⟨hP10, hP11⟩ := hP1
                    have dv1 : decide (v ≤ C + P1) = true := decide_eq_true hv1
                    have hpr := price_any (w8.drewN q8) A n c fs HC.out.2.1 (Kd.C_below HW8.out.2.2 (bdN _ _)) HC.out.1 most least p price
                    rw [hv] at hpr
                    have HPR := Aside0.mk hpr
                    have s0 := (HW8.out.2.1.drewN q8).at_ (i := 0) rfl
                    have s1 := (HW8.out.2.1.drewN q8).at_ (i := 1) rfl
                    have s2 := (HW8.out.2.1.drewN q8).at_ (i := 2) rfl
                    clear hpr hv
                    go_upto_region 29 with ((with_reducible refine HPR.out.mono ?_); rintro e9 w9 ⟨rfl, hb9⟩; have HB9 := Aside0.mk (below_step HW8.out.1 (below_step (bdN w8 q8) hb9)); clear hb9)
                    clear s0 s1 s2
                    go_wp2_with ((with_reducible refine (HAL.out _).mono ?_); rintro e20 w20 ⟨rfl, hb20⟩; have HB20 := Aside0.mk (below_step HB9.out hb20); clear hb20)
                    go_ret
                    exact ⟨rfl, HB20.out⟩
      · have hz : planE fs l least p ≠ 0 := by rw [← HR.out.2.1]; exact hE0
        have hno := cheap_none hz ls
        rw [hno.2.2] at hll
        have hK0 : l5.length = 0 := hll
        have hC0 : C = 0 := by rw [HR.out.1]; exact hno.2.1
        have hEb : (E != 0) = true := by simpa using hE0
        have hfb : (f != 0) = true := by rw [HR.out.2.2.2]; simpa using hno.1
        rw [hK0]
        subst hC0
        clear hget hll hK0 hno hz hE0 hcap
        go_wp2_with ((with_reducible refine (HAL.out _).mono ?_); rintro e7 w7 ⟨rfl, hb7⟩; have HB7 := Aside0.mk (below_step H6.out.1 hb7); clear hb7)
        go_ret
        exact ⟨rfl, HB7.out⟩
  · have hd : decide ((n : Int) ≤ 140) = false := decide_eq_false h140
    rw [hd] at HFW
    go_enter Try.func11, Try.ntmps11
    go_wp2_with (first | ((with_reducible refine (HFW.out _).mono ?_); rintro e5 w5 ⟨rfl, rfl⟩) | ((with_reducible refine (HAL.out _).mono ?_); rintro e6 w6 ⟨rfl, hb6⟩; have HB6 := Aside0.mk (below_step H1.out.1 hb6); clear hb6))
    go_ret
    exact ⟨rfl, HB6.out⟩
end Go.Proofs.Ythkfahkkcjagdaa

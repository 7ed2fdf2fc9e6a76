/- What PressMirror answers. -/
import Derived.Test.YtnoocdobldchoaaJo3
import Derived.Deep.RegionHeldLaw
namespace Go.Proofs.Ytnoocdobldchoaa
open Go.RowKit Go.Proofs.YtnoocdobldchoaaW.PrintWords Go.Proofs.YtnoocdobldchoaaW.PrintMore Go.Proofs.YtnoocdobldchoaaW.PrintLast

/-- Both times of all dumps swapped. -/
def bk (ds : List (Int × Int)) : List (Int × Int) := ds.map fun d => (d.2, d.1)
theorem bk_length (ds : List (Int × Int)) : (bk ds).length = ds.length := by simp [bk]
theorem bk_bk (ds : List (Int × Int)) : bk (bk ds) = ds := by
  unfold bk
  rw [List.map_map]
  exact (List.map_congr_left (g := id) (fun x _ => rfl)).trans (List.map_id ds)
theorem rdP_bk (ds : List (Int × Int)) (x : Int) : rdP (bk ds) x = ((rdP ds x).2, (rdP ds x).1) := by
  unfold rdP bk
  rw [List.getD_eq_getElem?_getD, List.getD_eq_getElem?_getD, List.getElem?_map]
  cases ds[x.toNat]? <;> rfl
theorem bk_take (ds : List (Int × Int)) (i : Nat) (h : i < ds.length) : (bk ds).take (i + 1) = (bk ds).take i ++ [((rdP ds i).2, (rdP ds i).1)] := by
  rw [List.take_succ_eq_append_getElem (by rw [bk_length]; exact h), ← rdP_bk]
  unfold rdP
  rw [Int.toNat_natCast, List.getD_eq_getElem?_getD, List.getElem?_eq_getElem (by rw [bk_length]; exact h)]
  rfl
theorem badD_bk (d : Int × Int) : badD (d.2, d.1) = badD d := by unfold badD; exact Bool.or_comm _ _
theorem dumpsE_bk (ds : List (Int × Int)) : dumpsE (bk ds) = dumpsE ds := by
  have e : (bk ds).any badD = ds.any badD := by
    unfold bk
    rw [List.any_map]
    congr 1
    funext d
    exact badD_bk d
  unfold dumpsE
  rw [bk_length, e]
theorem perm_rev {o l : List Int} : o.reverse.Perm l ↔ o.Perm l := ⟨fun h => (List.reverse_perm o).symm.trans h, fun h => (List.reverse_perm o).trans h⟩
theorem orderedE_bk (ds : List (Int × Int)) (o : List Int) : orderedE (bk ds) o.reverse = orderedE ds o := by
  unfold orderedE
  rw [dumpsE_bk, bk_length]
  simp only [perm_rev]
theorem map_bk (ds : List (Int × Int)) (o : List Int) : o.reverse.map (rdP (bk ds)) = mirr (o.map (rdP ds)) := by
  unfold mirr
  rw [List.map_map, List.map_reverse]
  congr 1
  exact List.map_congr_left (fun x _ => rdP_bk ds x)
theorem spanF_bk {ds : List (Int × Int)} {o : List Int} (h0 : dumpsE ds = 0) (hr : ∀ x ∈ o, 0 ≤ x ∧ x < ds.length) : spanF (bk ds) o.reverse = spanF ds o := by
  rw [spanF_L, spanF_L, map_bk]
  refine span_mirr (fun d hd => ?_)
  obtain ⟨x, hx, rfl⟩ := List.mem_map.1 hd
  have := (DOK.of_E h0).at_ x (hr x hx).1 (hr x hx).2
  omega
theorem makeF_bk (ds : List (Int × Int)) (o : List Int) : makeF (bk ds) o.reverse = makeF ds o := by
  unfold makeF
  rw [orderedE_bk]
  by_cases h : orderedE ds o = 0
  · rw [if_pos h, if_pos h]
    obtain ⟨hd, hp⟩ := ordered_ok h
    exact spanF_bk hd (perm_rng hp).1
  · rw [if_neg h, if_neg h]
theorem spanF_bk_le {ds : List (Int × Int)} (h0 : dumpsE ds = 0) : spanF ds (jord ds) ≤ spanF (bk ds) (jord (bk ds)) := by
  have hp := jord_perm (bk ds)
  rw [bk_length] at hp
  have h1 := jord_best (o := (jord (bk ds)).reverse) h0 (perm_rev.2 hp)
  have h2 := spanF_bk (ds := bk ds) (o := jord (bk ds)) (by rw [dumpsE_bk]; exact h0) (by rw [bk_length]; exact (perm_rng hp).1)
  rw [bk_bk] at h2
  omega
theorem spanF_jord_bk {ds : List (Int × Int)} (h0 : dumpsE ds = 0) : spanF (bk ds) (jord (bk ds)) = spanF ds (jord ds) := by
  have a := spanF_bk_le h0
  have b := spanF_bk_le (ds := bk ds) (by rw [dumpsE_bk]; exact h0)
  rw [bk_bk] at b
  omega
theorem JBest.bk {ds : List (Int × Int)} {m m' : Int} {n n' : Nat} {l l' : List Int} (h : JBest ds m n l) (k : JBest (bk ds) m' n' l') : m' = m := by
  by_cases e : dumpsE ds = 0
  · obtain ⟨_, rfl, _⟩ := h.1 e
    obtain ⟨_, rfl, _⟩ := k.1 (by rw [dumpsE_bk]; exact e)
    exact spanF_jord_bk e
  · obtain ⟨rfl, _, _⟩ := h.2 e
    obtain ⟨rfl, _, _⟩ := k.2 (by rw [dumpsE_bk]; exact e)
    rfl
theorem rev_step (o : List Int) (i : Int) (h0 : 0 ≤ i) (h : i < o.length) : (o.drop i.toNat).reverse = (o.drop (i + 1).toNat).reverse ++ [rd o i] := by
  rw [drop_rd o i h0 h, List.reverse_cons]
theorem info55 : (Try.prog.info? 55).map (fun i => (i.zero, i.size, i.bytes)) = some (some (.agg #[.int .i64 0, .int .i64 0]), 2, 16) := by kernel_rfl

set_option maxHeartbeats 4000000 in
theorem mirror_far (w : World) (A B : Option Addr) (n c m d : Nat) (h : 64 < n ∨ 64 < m) :
    Calls Try.prog 12 #[.slice A n c, .slice B m d] w fun e w' => e = .returned (.bool true) ∧ Below w.heap.size w w' := by
  have ha := Aside0.mk alive_any
  by_cases h1 : 64 < n
  · have d1 : decide ((64 : Int) < n) = true := decide_eq_true (by omega)
    clear h
    go_enter Try.func12, Try.ntmps12
    go_wp2_with ((with_reducible refine (ha.out _).mono ?_); rintro e8 w8 ⟨rfl, hb8⟩; have H8 := Aside0.mk hb8; clear hb8)
    go_ret
    exact ⟨rfl, H8.out⟩
  · have d1 : decide ((64 : Int) < n) = false := decide_eq_false (by omega)
    have d2 : decide ((64 : Int) < m) = true := decide_eq_true (by omega)
    clear h
    go_enter Try.func12, Try.ntmps12
    go_wp2_with ((with_reducible refine (ha.out _).mono ?_); rintro e8 w8 ⟨rfl, hb8⟩; have H8 := Aside0.mk hb8; clear hb8)
    go_ret
    exact ⟨rfl, H8.out⟩

set_option maxRecDepth 100000 in
set_option maxHeartbeats 8000000 in
theorem mirror_near (w : World) (A B : Option Addr) (c d : Nat) (ds : List (Int × Int)) (o : List Int) (h : kP.C w A ds.length ds) (k : (Kd.int .i64).C w B o.length o) (h1 : ds.length ≤ 64) (h2 : o.length ≤ 64) :
    Calls Try.prog 12 #[.slice A ds.length c, .slice B o.length d] w fun e w' => e = .returned (.bool true) ∧ Below w.heap.size w w' := by
  have ha := Aside0.mk alive_any
  have d1 : decide ((64 : Int) < ds.length) = false := decide_eq_false (by omega)
  have d2 : decide ((64 : Int) < o.length) = false := decide_eq_false (by omega)
  have HK := Aside0.mk (And.intro h k)
  clear h k
  go_enter Try.func12, Try.ntmps12
  go_upto_region 5 with fail
  clear d1 d2
  go_loopw [5, 6] (fun v5 v6 wr => ∃ (bs : List (Int × Int)) (i : Nat), v6 = .int .i64 i ∧ i ≤ ds.length ∧ bs.length ≤ 64 ∧ Aside0 (bs = (bk ds).take i) ∧ Aside0 (Kd.R kP 55 wr w.heap.size (fun _ => True) v5 bs ∧ Below w.heap.size w wr)) (fun _ v _ => ds.length - (intOf v).toNat)
  case atStart => exact ⟨[], 0, rfl, by omega, by simp, ⟨by simp⟩, ⟨Kd.R_nil _ _ _ _ _, Below.refl _ _⟩⟩
  case round =>
    obtain ⟨bs, i, rfl, hi, hbl, HBS, HR⟩ := hrel
    by_cases hlt : i < ds.length
    · have hlti : (i : Int) < ds.length := by omega
      obtain ⟨ad, e1, g1, g2⟩ := at_P HK.out.1 (i : Int) (by omega) hlti
      subst e1
      have hst := bk_take ds i hlt
      obtain ⟨x, hx⟩ : ∃ z, z = rdP ds (i : Int) := ⟨_, rfl⟩
      rw [← hx] at g1 g2 hst
      rw [Int.toNat_natCast] at g1 g2
      obtain ⟨x1, x2⟩ := x
      dsimp only at g1 g2 hst
      obtain ⟨bs2, hbs2⟩ : ∃ z, z = bs ++ [(x2, x1)] := ⟨_, rfl⟩
      have HST : Aside0 (bs2 = (bk ds).take (i + 1)) := ⟨by rw [hst, hbs2, HBS.out]⟩
      have hbl2 : bs2.length ≤ 64 := by
        rw [HST.out, List.length_take]; omega
      have HB2 := Aside0.mk hbs2
      have HG := Aside0.mk (fun W (hW : Below w.heap.size w W) => And.intro ((hW.cell (World.block_lt_of_cell? w _ g1)).trans g1) ((hW.cell (World.block_lt_of_cell? w _ g2)).trans g2))
      obtain ⟨k1, k2⟩ := HG.out wr HR.out.2
      clear hst hx hbs2 hlt g1 g2
      go_upto_region 7 with fail
      go_region_held_law (fun W => W.cell? (ad.add (i * 2)) = some (.int .i64 x1) ∧ W.cell? ⟨(ad.add (i * 2)).block, (ad.add (i * 2)).off + 1, none⟩ = some (.int .i64 x2))
        (first
          | exact HG.out _ (by repeat (first | exact H9.out.2 | exact HR.out.2 | apply below_alloc | apply below_drew))
          | go_keep)
        ((refine Kd.R_append_step kP (W := wr.drew) (w0 := w) w.heap.size (by rfl) (.tmp 34) (.tmp 46) 48 55 (.agg #[.int .i64 0, .int .i64 0]) 16 (by rfl) Try.underlying48 info55 rfl (by decide) (by omega) u5 bs (x2, x1) [.int .i64 x2, .int .i64 x1] (fun _ => True) (fun _ => False) (by rfl) (by rfl) ⟨[.int .i64 x2], [.int .i64 x1], rfl, rfl, rfl⟩ (fun _ hk => hk.elim) (fun _ _ => trivial) (Kd.R_drew HR.out.1) (below_drew HR.out.2) (below_size (below_drew HR.out.2)) (by omega) ?_; intro v9 w9 ho hb hg hat; rw [← HB2.out] at ho; have H9 := Aside0.mk (And.intro ho hb); clear ho hb hg hat))
      go_wp2_with fail
      go_roundw
      case rel => exact ⟨bs2, i + 1, by go_num, by omega, hbl2, HST, H9⟩
      case measure => show ds.length - ((i : Int) + 1).toNat < ds.length - (i : Int).toNat; omega
    · have hlti : ¬ (i : Int) < ds.length := by omega
      have hbs : bs = bk ds := by rw [HBS.out, List.take_of_length_le (by rw [bk_length]; omega)]
      obtain ⟨A5, c5, e5⟩ := Kd.R_slice HR.out.1
      subst e5
      have hC5 := (Kd.R_reads' HR.out.1).2.2
      have hle : bs.length ≤ ds.length ∧ ds.length ≤ bs.length := by rw [hbs, bk_length]; omega
      obtain ⟨hle1, hle2⟩ := hle
      have HC5 := Aside0.mk hC5
      have HB5 := Aside0.mk HR.out.2
      have HBS2 := Aside0.mk hbs
      have HK5 : Aside0 (kP.C wr A ds.length ds ∧ (Kd.int .i64).C wr B o.length o) := ⟨Kd.C_below HK.out.1 HR.out.2, Kd.C_below HK.out.2 HR.out.2⟩
      clear hC5 HR HBS hbs HK
      go_upto_region 10 with fail
      obtain ⟨w5, hw5⟩ : ∃ z, z = wr := ⟨_, rfl⟩
      subst hw5
      go_loopw [7, 8] (fun v7 v8 wr => ∃ (os : List Int) (i : Int), v8 = .int .i64 i ∧ -1 ≤ i ∧ i < o.length ∧ os.length ≤ 64 ∧ Aside0 (os = (o.drop (i + 1).toNat).reverse) ∧ Aside0 (Kd.R (Kd.int .i64) 3 wr w5.heap.size (fun _ => True) v7 os ∧ Below w5.heap.size w5 wr)) (fun _ v _ => (intOf v + 1).toNat)
      case atStart => exact ⟨[], (o.length : Int) - 1, by go_num, by omega, by omega, by simp, ⟨by rw [show ((o.length : Int) - 1 + 1).toNat = o.length by omega, List.drop_length]; rfl⟩, ⟨Kd.R_nil _ _ _ _ _, Below.refl _ _⟩⟩
      case round =>
        obtain ⟨os, j, rfl, hj0, hj1, hol, HOS, HR⟩ := hrel
        by_cases hjn : 0 ≤ j
        · obtain ⟨ad, e1, g1⟩ := Kd.at_int (Kd.C_below HK5.out.2 HR.out.2) j hjn hj1
          subst e1
          have hst := rev_step o j hjn hj1
          obtain ⟨x, hx⟩ : ∃ z, z = rd o j := ⟨_, rfl⟩
          rw [← hx] at g1 hst
          obtain ⟨os2, hos2⟩ : ∃ z, z = os ++ [x] := ⟨_, rfl⟩
          have HST : Aside0 (os2 = (o.drop (j - 1 + 1).toNat).reverse) := ⟨by rw [show j - 1 + 1 = j by omega, hst, hos2, HOS.out]⟩
          have hol2 : os2.length ≤ 64 := by rw [HST.out, List.length_reverse, List.length_drop]; omega
          have HO2 := Aside0.mk hos2
          clear hst hx hos2
          go_wp2_with ((with_reducible refine gate_builtin (b := .append) (xs := #[.tmp 55, .tmp 60]) rfl ?_); at_builtin; refine Kd.R_append (Kd.int .i64) (w0 := w5) w5.heap.size rfl (.tmp 55) (.tmp 60) 22 3 (.int .i64 0) 8 rfl Try.underlying22 info3 rfl (by decide) (by omega) u7 os x [.int .i64 x] (fun _ => True) (fun _ => False) rfl rfl ?aP (fun _ hk => hk.elim) ?aF ?aO ?aB ?aS ?aL ?_; (case aP => exact rfl); (case aB => exact HR.out.2); (case aF => exact (fun _ _ => trivial)); (case aO => exact HR.out.1); (case aS => exact (below_size HR.out.2)); (case aL => omega); intro v9 w9 ho hb hg hat; rw [← HO2.out] at ho; have H9 := Aside0.mk (And.intro ho hb); clear ho hb hg hat)
          go_roundw
          case rel => exact ⟨os2, j - 1, by go_num, by omega, by omega, hol2, HST, H9⟩
          case measure => show (j - 1 + 1).toNat < (j + 1).toNat; omega
        · have hos : os = o.reverse := by rw [HOS.out, show (j + 1).toNat = 0 by omega]; rfl
          obtain ⟨A7, c7, e7⟩ := Kd.R_slice HR.out.1
          subst e7
          have hC7 := (Kd.R_reads' HR.out.1).2.2
          have hmk1 := makespan_any wr A B c d ds o (Kd.C_below HK5.out.1 HR.out.2) (Kd.C_below HK5.out.2 HR.out.2)
          have hmk2 := fun W (hW : Below wr.heap.size wr W) => makespan_any W A5 A7 c5 c7 bs os (Kd.C_below (Kd.C_below HC5.out HR.out.2) hW) (Kd.C_below hC7 hW)
          have hsq1 := fun W (hW : Below wr.heap.size wr W) => seq_tri W A c ds (Kd.C_below (Kd.C_below HK5.out.1 HR.out.2) hW)
          have hsq2 := fun W (hW : Below wr.heap.size wr W) => seq_tri W A5 c5 bs (Kd.C_below (Kd.C_below HC5.out HR.out.2) hW)
          rw [show makeF bs os = makeF ds o by rw [HBS2.out, hos, makeF_bk], show orderedE bs os = orderedE ds o by rw [HBS2.out, hos, orderedE_bk]] at hmk2
          rw [show dumpsE bs = dumpsE ds by rw [HBS2.out, dumpsE_bk]] at hsq2
          obtain ⟨e0, he0⟩ : ∃ z, z = dumpsE ds := ⟨_, rfl⟩
          obtain ⟨f0, hf0⟩ : ∃ z, z = orderedE ds o := ⟨_, rfl⟩
          obtain ⟨m0, hm0⟩ : ∃ z, z = makeF ds o := ⟨_, rfl⟩
          rw [← hf0, ← hm0] at hmk1 hmk2
          rw [← he0] at hsq1 hsq2
          have HM1 := Aside0.mk hmk1
          have HM2 := Aside0.mk hmk2
          have HS1 := Aside0.mk hsq1
          have HS2 := Aside0.mk hsq2
          have HBF := Aside0.mk (below_step HB5.out HR.out.2)
          clear hmk1 hmk2 hsq1 hsq2 hC7 hos HOS HR HC5 he0 hf0 hm0
          go_upto_region 14 with ((with_reducible refine HM1.out.mono ?_); rintro e1 w1 ⟨rfl, hb1⟩; have H1 := Aside0.mk hb1; clear hb1)
          go_upto_region 15 with ((with_reducible refine (HM2.out _ H1.out).mono ?_); rintro e2 w2 ⟨rfl, hb2⟩; have H2 := Aside0.mk (below_step H1.out hb2); clear hb2)
          go_upto_region 16 with ((with_reducible refine (HS1.out _ H2.out).mono ?_); rintro e3 w3 ⟨A1, n1, q1, m1, l1, rfl, hb3, hC3, hB3⟩; have H3 := Aside0.mk (And.intro (below_step H2.out hb3) hB3); clear hb3 hC3 hB3)
          go_upto_region 17 with ((with_reducible refine (HS2.out _ H3.out.1).mono ?_); rintro e4 w4 ⟨A2, n2, q2, m2, l2, rfl, hb4, hC4, hB4⟩; have H4 := Aside0.mk (And.intro (below_step H3.out.1 hb4) hB4); clear hb4 hC4 hB4)
          obtain rfl : m2 = m1 := H3.out.2.bk (by have := H4.out.2; rw [HBS2.out] at this; exact this)
          have b1 : (m0 == m0) = true := by simp
          have b2 : (f0 == f0) = true := by simp
          have b3 : (m2 == m2) = true := by simp
          have b4 : (e0 == e0) = true := by simp
          go_wp2_with ((with_reducible refine (ha.out _).mono ?_); rintro e8 w8 ⟨rfl, hb8⟩; have H8 := Aside0.mk (below_step HBF.out (below_step H4.out.1 hb8)); clear hb8)
          go_ret
          exact ⟨rfl, H8.out⟩
theorem pmirror_any (w : World) (A B : Option Addr) (c d : Nat) (ds : List (Int × Int)) (o : List Int) (h : kP.C w A ds.length ds) (k : (Kd.int .i64).C w B o.length o) :
    Calls Try.prog 12 #[.slice A ds.length c, .slice B o.length d] w fun e w' => e = .returned (.bool true) ∧ Below w.heap.size w w' := by
  by_cases hh : 64 < ds.length ∨ 64 < o.length
  · exact mirror_far w A B _ c _ d hh
  · exact mirror_near w A B c d ds o h k (by omega) (by omega)
end Go.Proofs.Ytnoocdobldchoaa

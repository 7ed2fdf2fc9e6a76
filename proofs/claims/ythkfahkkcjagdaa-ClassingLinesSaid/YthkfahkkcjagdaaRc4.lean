/- The reference's table of costs: its walk. -/
import Derived.Test.YthkfahkkcjagdaaRc3
namespace Go.Proofs.Ythkfahkkcjagdaa
open Go.RowKit Go.Proofs.YthkfahkkcjagdaaW.PrintWords Go.Proofs.YthkfahkkcjagdaaW.PrintMore Go.Proofs.YthkfahkkcjagdaaW.PrintLast

/-- A fleece of the order, read. -/
theorem ord_read {w : World} {A B : Option Addr} {n : Nat} {fs : List Fl} (hn : fs.length = n) (h : kF.C w A n fs) (hB : (Kd.int .i64).C w B n (ordF fs)) (W : World) (hW : Below w.heap.size w W) (m : Nat) (hm : m < n) : ∃ (adB ad : Addr) (x : Nat), B = some adB ∧ A = some ad ∧ x < n ∧ W.cell? (adB.add m) = some (.int .i64 x) ∧
      W.cell? (ad.add (x * 6)) = some (.int .u8 (sF fs (ordF fs) m).k0) ∧ W.cell? ⟨(ad.add (x * 6)).block, (ad.add (x * 6)).off + 1, none⟩ = some (.int .u8 (sF fs (ordF fs) m).k1) ∧ W.cell? ⟨(ad.add (x * 6)).block, (ad.add (x * 6)).off + 2, none⟩ = some (.int .u8 (sF fs (ordF fs) m).k2) ∧ W.cell? ⟨(ad.add (x * 6)).block, (ad.add (x * 6)).off + 3, none⟩ = some (.int .u8 (sF fs (ordF fs) m).k3) ∧ W.cell? ⟨(ad.add (x * 6)).block, (ad.add (x * 6)).off + 4, none⟩ = some (.int .i64 (sF fs (ordF fs) m).mic) := by
  obtain ⟨adB, e1, g⟩ := Kd.at_int (Kd.C_below hB hW) (m : Int) (by omega) (by omega)
  rw [Int.toNat_natCast] at g
  have hx := ordF_mem (getD_mem (l := ordF fs) (i := m) (by rw [ordF_length, hn]; exact hm))
  rw [hn] at hx
  have hrd : rd (ordF fs) (m : Int) = (ordF fs).getD m 0 := by unfold rd; rw [Int.toNat_natCast]
  rw [hrd] at g
  obtain ⟨ad, e2, g0, g1, g2, g3, g4, g5⟩ := at_F (Kd.C_below h hW) ((ordF fs).getD m 0) hx.1 hx.2
  exact ⟨adB, ad, ((ordF fs).getD m 0).toNat, e1, e2, by omega, by rw [Int.toNat_of_nonneg hx.1]; exact g, g0, g1, g2, g3, g4⟩
def negO : Option Int → Int
  | none => -1
  | some x => x
/-- What stands at a place of a row. -/
def nvR (s : Nat → Fl) (least p : Int) (i x : Nat) : Int := if i < x then negO (cO s least p i (x - i)) else -1
def nrow (s : Nat → Fl) (least p : Int) (n i : Nat) : List Int := (List.range (n + 1)).map fun x => nvR s least p i x
def ncur (s : Nat → Fl) (least p : Int) (n i j : Nat) : List Int := (List.range (n + 1)).map fun x => if x < j then nvR s least p i x else 0
section
variable (s : Nat → Fl) (least p : Int) (n i : Nat)
theorem ncur_length (j : Nat) : (ncur s least p n i j).length = n + 1 := by simp [ncur]
theorem ncur_init : List.replicate (n + 1) 0 = ncur s least p n i 0 := by
  refine List.ext_getElem? fun j => ?_
  unfold ncur
  rw [List.getElem?_map, List.getElem?_replicate]
  by_cases hj : j < n + 1
  · rw [List.getElem?_range hj, if_pos hj]; rfl
  · rw [List.getElem?_eq_none (by simp; omega), if_neg hj]; rfl
theorem ncur_set {j : Nat} (hj : j < n + 1) : (ncur s least p n i j).set j (nvR s least p i j) = ncur s least p n i (j + 1) := by
  unfold ncur
  refine map_set_range _ _ _ _ _ hj ?_ fun x hx hne => ?_
  · rw [if_pos (by omega)]
  · by_cases h : x < j
    · rw [if_pos h, if_pos (by omega)]
    · rw [if_neg h, if_neg (by omega)]
theorem ncur_set2 {j : Nat} (hj : j < n + 1) (v : Int) : ((ncur s least p n i j).set j v).set j (nvR s least p i j) = ncur s least p n i (j + 1) := by
  rw [List.set_set, ncur_set _ _ _ _ _ hj]
theorem ncur_last {j : Nat} (hj : n + 1 ≤ j) : ncur s least p n i j = nrow s least p n i := by
  unfold ncur nrow
  refine List.map_congr_left fun x hx => ?_
  rw [if_pos (by have := List.mem_range.1 hx; omega)]
end
/-- The rows of the table, as a row of slices. -/
def kS (n : Nat) : Kd Nat := Kd.scalar (fun r : Nat => Value.slice (some ⟨r, 0, none⟩) (n + 1) (n + 1)) (fun _ => rfl)
theorem infoS (n : Nat) : (Try.prog.info? 35).map (fun i => (i.zero, i.size, i.bytes)) = some (some (Value.slice none 0 0), (kS n).sz, 24) := by
  show _ = some (some (Value.slice none 0 0), 1, 24)
  kernel_rfl
/-- The table under way. -/
structure CT (w wr : World) (n : Nat) (s : Nat → Fl) (least p : Int) (v : Value) (rs : List Nat) : Prop where
  b : Below w.heap.size w wr
  o : (kS n).R 35 wr w.heap.size (fun _ => True) v rs
  r : ∀ a, a < rs.length → Blk wr (rs.getD a 0) (ints (nrow s least p n a)) 3
  hb : ∀ a, a < rs.length → w.heap.size ≤ rs.getD a 0
theorem tS (n : Nat) : ∀ q, q ∈ 35 :: (kS n).E → q ≠ 3 := by intro q h; simp [kS, Kd.scalar] at h; omega
theorem CT.below {w wr w1 : World} {n : Nat} {s : Nat → Fl} {least p : Int} {v : Value} {rs : List Nat} (h : CT w wr n s least p v rs) (k : Below wr.heap.size wr w1) : CT w w1 n s least p v rs :=
  ⟨below_step h.b k, Kd.R_below h.o k, fun a ha => (h.r a ha).below k, h.hb⟩
/-- And one row that is being filled. -/
structure CR (w wr : World) (n : Nat) (s : Nat → Fl) (least p : Int) (v : Value) (rs : List Nat) (g : Nat) (cur : List Int) : Prop where
  t : CT w wr n s least p v rs
  c : Blk wr g (ints cur) 3
  ne : ∀ a, a < rs.length → rs.getD a 0 ≠ g
  hg : w.heap.size ≤ g
theorem CR.below {w wr w1 : World} {n : Nat} {s : Nat → Fl} {least p : Int} {v : Value} {rs : List Nat} {g : Nat} {cur : List Int} (h : CR w wr n s least p v rs g cur) (k : Below wr.heap.size wr w1) : CR w w1 n s least p v rs g cur :=
  ⟨h.t.below k, h.c.below k, h.ne, h.hg⟩
theorem CR.set {w wr : World} {n : Nat} {s : Nat → Fl} {least p : Int} {v : Value} {rs : List Nat} {g : Nat} {cur : List Int} (h : CR w wr n s least p v rs g cur) (j : Nat) (x : Int) : CR w (wr.setCell ⟨g, j, none⟩ (.int .i64 x)) n s least p v rs g (cur.set j x) :=
  ⟨⟨h.t.b.setCell h.hg _, Kd.R_set h.t.o h.c (tS n) j _, fun a ha => (h.t.r a ha).far (h.ne a ha) _, h.t.hb⟩, by have := h.c.set j (.int .i64 x); rwa [ints_set] at this, h.ne, h.hg⟩
theorem CT.make {w wr : World} {n : Nat} {s : Nat → Fl} {least p : Int} {v : Value} {rs : List Nat} (h : CT w wr n s least p v rs) (cur : List Int) : CR w (wr.alloc (.cells (ints cur).toArray 3)) n s least p v rs wr.heap.size cur :=
  ⟨h.below (below_alloc (Below.refl _ _) _), Blk.new wr _ 3, fun a ha => Nat.ne_of_lt (h.r a ha).lt, h.b.size⟩
theorem CR.done {w wr w1 : World} {n : Nat} {s : Nat → Fl} {least p : Int} {v v1 : Value} {rs : List Nat} {g : Nat} (h : CR w wr n s least p v rs g (nrow s least p n rs.length)) (ho : (kS n).R 35 w1 w.heap.size (fun _ => True) v1 (rs ++ [g])) (hb : Below w.heap.size w w1) (hg : wr.grownBy w1 v.ownBlock) : CT w w1 n s least p v1 (rs ++ [g]) := by
  have hk : ∀ b cs, Blk wr b cs 3 → Blk w1 b cs 3 := fun b cs hbk => (hg.block b hbk.lt (Kd.R_ne h.t.o hbk (by decide))).trans hbk
  refine ⟨hb, ho, fun a ha => ?_, fun a ha => ?_⟩
  · rw [List.length_append, List.length_singleton] at ha
    rcases (show a < rs.length ∨ a = rs.length by omega) with h1 | h1
    · rw [getD_append_lt h1]; exact hk _ _ (h.t.r a h1)
    · rw [getD_append_eq h1, h1]; exact hk _ _ h.c
  · rw [List.length_append, List.length_singleton] at ha
    rcases (show a < rs.length ∨ a = rs.length by omega) with h1 | h1
    · rw [getD_append_lt h1]; exact h.t.hb a h1
    · rw [getD_append_eq h1]; exact h.hg
theorem cO_off {s : Nat → Fl} {least p : Int} {i j x : Nat} (hij : i < j) (hjx : j ≤ x) (h : ¬ (sameK (s i) (s (j - 1)) = true ∧ (s (j - 1)).mic - (s i).mic ≤ p)) : cO s least p i (x - i) = none := by
  unfold cO
  rw [if_neg]
  rintro ⟨h1, _⟩
  have h2 := okR_at h1 (show j - 1 - i < x - i by omega)
  rw [show i + (j - 1 - i) = j - 1 by omega] at h2
  exact h h2

theorem alloc_cell (w : World) (cs : Array Value) (t : TypeId) (i : Nat) : (w.alloc (.cells cs t)).cell? ⟨w.heap.size, i, none⟩ = cs[i]? := by
  simp
def CostsPost (w : World) (n : Nat) (s : Nat → Fl) (least p : Int) (e : Ending) (w' : World) : Prop := ∃ v rs wb, e = .returned v ∧ CT wb w' n s least p v rs ∧ rs.length = n ∧ Below w.heap.size w w'
theorem rl_none {w w' : World} {s : Nat → Fl} {ord : List Int} {least p : Int} {i d : Nat} {e : Ending} (h : RLPost w s ord least p i d e w') (hc : cO s least p i d = none) : e = .returned (.tuple #[.agg #[.int .u8 0, .int .u8 0, .int .u8 0, .int .u8 0, .slice none 0 0, .int .i64 0, .int .i64 0, .int .i64 0], .bool false]) ∧ Below w.heap.size w w' := by
  unfold RLPost at h
  rw [hc] at h
  exact ⟨h.2, h.1⟩
theorem rl_some {w w' : World} {s : Nat → Fl} {ord : List Int} {least p : Int} {i d : Nat} {e : Ending} {co : Int} (h : RLPost w s ord least p i d e w') (hc : cO s least p i d = some co) : ∃ A cc, e = .returned (.tuple #[.agg #[.int .u8 (s i).k0, .int .u8 (s i).k1, .int .u8 (s i).k2, .int .u8 (s i).k3, .slice A ((ord.drop i).take d).length cc, .int .i64 (massD s i d), .int .i64 (cen s i d), .int .i64 co], .bool true]) ∧ Below w.heap.size w w' ∧ (Kd.int .i64).R 3 w' w.heap.size (fun _ => True) (.slice A ((ord.drop i).take d).length cc) ((ord.drop i).take d) := by
  unfold RLPost at h
  rw [hc] at h
  obtain ⟨h1, v, h2, h3⟩ := h
  obtain ⟨A, cc, hv⟩ := Kd.R_slice h3
  subst hv
  exact ⟨A, cc, h2, h1, h3⟩
set_option maxHeartbeats 16000000 in
set_option maxRecDepth 100000 in
theorem costs_any (w : World) (A : Option Addr) (n c : Nat) (fs : List Fl) (hn : fs.length = n) (h : kF.C w A n fs) (hk : KOK fs) (l least p : Int) (hE : fs.all flOK = true) (hn8 : n ≤ 128) (hls : 0 ≤ least ∧ least ≤ 1073741824) (hp : 0 ≤ p ∧ p ≤ 10000) :
    Calls Try.prog 65 #[.slice A n c, .agg #[.int .i64 l, .int .i64 least, .int .i64 p]] w (CostsPost w n (sF fs (ordF fs)) least p) := by
  have b1 := below_alloc (Below.refl w.heap.size w) (.cells #[.int .i64 l, .int .i64 least, .int .i64 p] 24)
  have q1 := Blk.new w [.int .i64 l, .int .i64 least, .int .i64 p] 24
  have hor := order_any _ A n c fs hn (Kd.C_below h b1) hk hn8
  have HOR := Aside0.mk hor
  have H1 := Aside0.mk (And.intro b1 (And.intro q1 (Kd.C_below h b1)))
  have HC := Aside0.mk (And.intro hn (And.intro hk hE))
  have HSO := Aside0.mk (ordF_SOK hE)
  rw [hn] at HSO
  obtain ⟨s, hs⟩ : ∃ z, z = sF fs (ordF fs) := ⟨_, rfl⟩
  rw [← hs] at HSO ⊢
  have HS := Aside0.mk hs
  have mk1 := print_make (P := Try.prog) 35 3 .i64 8 Try.underlying35 info3 (by decide) (n + 1) (by omega)
  rw [show ((n + 1 : Nat) : Int) = (n : Int) + 1 by omega] at mk1
  clear h hk b1 q1 hor hE hs
  go_enter Try.func65, Try.ntmps65
  go_upto_region 3 with ((with_reducible refine HOR.out.mono ?_); rintro e3 w3 ⟨v3, rfl, hr3, hb3⟩; have H3 := Aside0.mk (And.intro hr3 (And.intro (below_step H1.out.1 hb3) (And.intro (H1.out.2.1.below hb3) (Kd.C_below H1.out.2.2 hb3)))); clear hr3 hb3)
  obtain ⟨B, cB, hv3, hcB, hB⟩ := Kd.R_reads H3.out.1
  rw [ordF_length, hn] at hv3 hcB hB
  subst hv3
  have HRD := Aside0.mk (ord_read hn H3.out.2.2.2 hB)
  have HLN := Aside0.mk (fun (W : World) (hW : Below w3.heap.size w3 W) (i d : Nat) (hd : 0 < d) (hid : i + d ≤ n) (j : Int) (hj : j = i + d) => rline_any W A B n c cB fs hn (Kd.C_below H3.out.2.2.2 hW) HC.out.2.1 (Kd.C_below hB hW) l least p HC.out.2.2 hn8 hls hp i d hd hid j hj)
  rw [← HS.out] at HRD HLN
  obtain ⟨b3, hb3⟩ : ∃ z, z = w.heap.size := ⟨_, rfl⟩
  have HB3 : Aside0 (Blk w3 b3 [.int .i64 l, .int .i64 least, .int .i64 p] 24) := ⟨by rw [hb3]; exact H3.out.2.2.1⟩
  have HBW := Aside0.mk H3.out.2.1
  rw [← hb3]
  clear hn hB hb3 H3 HOR H1 hls hp
  go_wp2_with fail
  go_loopw [6, 7, 8, 9, 10, 11] (fun v6 v7 _ _ _ _ wr => ∃ (i : Nat) (rs : List Nat), v7 = .int .i64 i ∧ i ≤ n ∧ Aside0 (rs.length = i ∧ CT w3 wr n s least p v6 rs)) (fun _ v7 _ _ _ _ _ => n - (intOf v7).toNat)
  case atStart => exact ⟨0, [], rfl, by omega, ⟨rfl, Below.refl _ _, Kd.R_nil _ _ _ _ _, fun a ha => by simp at ha, fun a ha => by simp at ha⟩⟩
  case round =>
    obtain ⟨i, rs, rfl, hi, HI⟩ := hrel
    by_cases hlt : i < n
    · have hlti : (i : Int) < n := by omega
      go_upto_region 7 with fail
      rw [made_ints]
      have h5 := HI.out.2.make (List.replicate (n + 1) 0)
      rw [ncur_init s least p n i] at h5
      rw [ncur_init s least p n i]
      generalize (wr.alloc (.cells (ints (ncur s least p n i 0)).toArray 3)) = w5 at h5 ⊢
      obtain ⟨g, hg⟩ : ∃ z, z = wr.heap.size := ⟨_, rfl⟩
      rw [← hg] at h5 ⊢
      have H5 := Aside0.mk h5
      have HRL := Aside0.mk HI.out.1
      clear h5 hg HI
      go_wp2_with fail
      go_loopw [9, 10, 11] (fun v9 _ _ wr => ∃ j : Nat, v9 = .int .i64 j ∧ j ≤ n + 2 ∧ Aside0 (CR w3 wr n s least p u6 rs g (ncur s least p n i j))) (fun v9 _ _ _ => n + 2 - (intOf v9).toNat)
      case atStart => exact ⟨0, rfl, by omega, H5⟩
      case round =>
        obtain ⟨j, rfl, hj, HJ⟩ := hrel
        clear H5
        by_cases hjn : j ≤ n
        · have hjni : (j : Int) ≤ n := by omega
          have hj1 : j < n + 1 := by omega
          have hj1i : (j : Int) < (n : Int) + 1 := by omega
          have cc := HJ.out.c.at_ (ints_get _ (show j < (ncur s least p n i j).length by rw [ncur_length]; exact hj1))
          obtain ⟨x0, hx0⟩ : ∃ z, z = (ncur s least p n i j).getD j 0 := ⟨_, rfl⟩
          rw [← hx0] at cc
          have cf := HJ.out.c.free j
          clear hx0
          go_upto_region 11 with fail
          clear cc cf
          have HJ2 := Aside0.mk (HJ.out.set j (-1))
          generalize (wr.setCell ⟨g, j, none⟩ (.int .i64 (-1))) = w6 at HJ2 ⊢
          clear HJ
          by_cases hji : j ≤ i
          · have hjii : (j : Int) ≤ i := by omega
            have HN : Aside0 (CR w3 w6 n s least p u6 rs g (ncur s least p n i (j + 1))) := ⟨by
              have := HJ2.out
              rw [← ncur_set _ _ _ _ _ hj1]
              rwa [show nvR s least p i j = -1 by unfold nvR; rw [if_neg (by omega)]]⟩
            go_wp2_with fail
            go_roundw
            case rel => exact ⟨j + 1, by go_num, by omega, HN⟩
            case measure => simp [intOf]; omega
          · have hjii : ¬ (j : Int) ≤ i := by omega
            have s0 := (HB3.out.below HJ2.out.t.b).at_ (i := 0) rfl
            have s1 := (HB3.out.below HJ2.out.t.b).at_ (i := 1) rfl
            have s2 := (HB3.out.below HJ2.out.t.b).at_ (i := 2) rfl
            have HL2 := Aside0.mk (HLN.out w6 HJ2.out.t.b i (j - i) (by omega) (by omega) (j : Int) (by omega))
            have HV : Aside0 (nvR s least p i j = negO (cO s least p i (j - i))) := ⟨by unfold nvR; rw [if_pos (by omega)]⟩
            have h15 : ∃ wA : World, True := ⟨w6, trivial⟩
            clear h15
            cases hcO : cO s least p i (j - i) with
            | none =>
              have HV2 : Aside0 (nvR s least p i j = -1) := ⟨by rw [HV.out, hcO]; rfl⟩
              go_upto_region 13 with ((with_reducible refine HL2.out.mono ?_); rintro e7 w7 h7; obtain ⟨rfl, hb7⟩ := rl_none h7 hcO; have HJ7 := Aside0.mk (HJ2.out.below hb7); clear hb7 h7)
              clear s0 s1 s2
              change Code.wp _ _ _ _ (w7.alloc (.cells #[.int .u8 0, .int .u8 0, .int .u8 0, .int .u8 0, .slice none 0 0, .int .i64 0, .int .i64 0, .int .i64 0] 37))
              have HA := Aside0.mk (HJ7.out.below (below_alloc (Below.refl w7.heap.size w7) (.cells #[.int .u8 0, .int .u8 0, .int .u8 0, .int .u8 0, .slice none 0 0, .int .i64 0, .int .i64 0, .int .i64 0] 37)))
              generalize (w7.alloc (.cells #[.int .u8 0, .int .u8 0, .int .u8 0, .int .u8 0, .slice none 0 0, .int .i64 0, .int .i64 0, .int .i64 0] 37)) = wA at HA ⊢
              clear HJ7
              have HCUR : Aside0 (CR w3 wA n s least p u6 rs g (ncur s least p n i (j + 1))) := ⟨by
                have := HA.out
                rwa [← HV2.out, ncur_set _ _ _ _ _ hj1] at this⟩
              clear HA
              have sp := (HB3.out.below HCUR.out.t.b).at_ (i := 2) rfl
              obtain ⟨aB, aA, x1, e1, e2, hx1, fB, f0, f1, f2, f3, f4⟩ := HRD.out wA HCUR.out.t.b (j - 1) (by omega)
              obtain ⟨aB2, aA2, x2, e3, e4, hx2, gB, g0, g1, g2, g3, g4⟩ := HRD.out wA HCUR.out.t.b i (by omega)
              subst e1
              subst e2
              cases e3
              cases e4
              have hx1i : (x1 : Int) < n := by omega
              have hx2i : (x2 : Int) < n := by omega
              have q1 : ((j : Int) - 1).toNat = j - 1 := by omega
              have q2 : (0 : Int) ≤ (j : Int) - 1 := by omega
              have q3 : (j : Int) - 1 < n := by omega
              have q4 : j - 1 < n := by omega
              have hm1 := (HSO.out (j - 1) (by omega)).1
              have hm2 := (HSO.out i (by omega)).1
              have hOFF : ¬ (((s i).k0 = (s (j - 1)).k0 ∧ (s i).k1 = (s (j - 1)).k1 ∧ (s i).k2 = (s (j - 1)).k2 ∧ (s i).k3 = (s (j - 1)).k3) ∧ (s (j - 1)).mic - (s i).mic ≤ p) → ∀ x, j ≤ x → nvR s least p i x = -1 := fun h x hx => by
                unfold nvR
                rw [if_pos (by omega), cO_off (by omega) hx (fun e => h ⟨of_decide_eq_true e.1, e.2⟩)]
                rfl
              obtain ⟨y0, hy0⟩ : ∃ z, z = (s (j - 1)).k0 := ⟨_, rfl⟩
              obtain ⟨y1, hy1⟩ : ∃ z, z = (s (j - 1)).k1 := ⟨_, rfl⟩
              obtain ⟨y2, hy2⟩ : ∃ z, z = (s (j - 1)).k2 := ⟨_, rfl⟩
              obtain ⟨y3, hy3⟩ : ∃ z, z = (s (j - 1)).k3 := ⟨_, rfl⟩
              obtain ⟨y4, hy4⟩ : ∃ z, z = (s (j - 1)).mic := ⟨_, rfl⟩
              obtain ⟨z0, hz0⟩ : ∃ z, z = (s i).k0 := ⟨_, rfl⟩
              obtain ⟨z1, hz1⟩ : ∃ z, z = (s i).k1 := ⟨_, rfl⟩
              obtain ⟨z2, hz2⟩ : ∃ z, z = (s i).k2 := ⟨_, rfl⟩
              obtain ⟨z3, hz3⟩ : ∃ z, z = (s i).k3 := ⟨_, rfl⟩
              obtain ⟨z4, hz4⟩ : ∃ z, z = (s i).mic := ⟨_, rfl⟩
              rw [← hy0, ← hy1, ← hy2, ← hy3, ← hy4, ← hz0, ← hz1, ← hz2, ← hz3, ← hz4] at hOFF
              rw [← hy0] at f0
              rw [← hy1] at f1
              rw [← hy2] at f2
              rw [← hy3] at f3
              rw [← hy4] at f4 hm1
              rw [← hz0] at g0
              rw [← hz1] at g1
              rw [← hz2] at g2
              rw [← hz3] at g3
              rw [← hz4] at g4 hm2
              clear hy0 hy1 hy2 hy3 hy4 hz0 hz1 hz2 hz3 hz4
              obtain ⟨hm10, hm11⟩ := hm1
              obtain ⟨hm20, hm21⟩ := hm2
              have hw1 : IntKind.i64.wrap ((j : Int) - 1) = (j : Int) - 1 := IntWalk.i64_in _ (by omega)
              have hw2 : IntKind.i64.wrap (y4 - z4) = y4 - z4 := IntWalk.i64_in _ (by omega)
              by_cases hke : y0 = z0 ∧ y1 = z1 ∧ y2 = z2 ∧ y3 = z3
              · have ke : ∀ W, (Op.equalIn 10000 34 (.agg #[.int .u8 y0, .int .u8 y1, .int .u8 y2, .int .u8 y3]) (.agg #[.int .u8 z0, .int .u8 z1, .int .u8 z2, .int .u8 z3])).run Try.prog W = .ok true W := fun W => by rw [kind_eql, decide_eq_true hke]
                by_cases hsp : y4 - z4 > p
                · have dp : decide (y4 - z4 > p) = true := decide_eq_true hsp
                  have dp2 : decide (p < y4 - z4) = true := decide_eq_true hsp
                  have HOFF := Aside0.mk (hOFF (by omega))
                  clear hOFF hke
                  go_upto_region 15 with fail
                  go_quiet (fail)
                  have HFIN := Aside0.mk (HCUR.out.below (bdN wA nq))
                  generalize wA.drewN nq = wD at HFIN ⊢
                  clear ke dp dp2 hsp f0 f1 f2 f3 f4 g0 g1 g2 g3 g4 fB gB sp q1 q2 q3 q4 hw1 hw2 HCUR
                  go_wp2_with fail
                  go_loopw [9] (fun v9 wr => ∃ x : Nat, v9 = .int .i64 x ∧ j + 1 ≤ x ∧ x ≤ n + 1 ∧ Aside0 (CR w3 wr n s least p u6 rs g (ncur s least p n i x))) (fun v9 _ => n + 1 - (intOf v9).toNat)
                  case atStart => exact ⟨j + 1, by go_num, by omega, by omega, ⟨HFIN.out⟩⟩
                  case round =>
                    obtain ⟨x, rfl, hx0, hx1, HX⟩ := hrel
                    by_cases hxn : x ≤ n
                    · have hxni : (x : Int) ≤ n := by omega
                      have hx2 : x < n + 1 := by omega
                      have hx2i : (x : Int) < (n : Int) + 1 := by omega
                      have cc := HX.out.c.at_ (ints_get _ (show x < (ncur s least p n i x).length by rw [ncur_length]; exact hx2))
                      obtain ⟨x0, hxx⟩ : ∃ z, z = (ncur s least p n i x).getD x 0 := ⟨_, rfl⟩
                      rw [← hxx] at cc
                      have cf := HX.out.c.free x
                      have HNX : Aside0 (CR w3 (wr.setCell ⟨g, x, none⟩ (.int .i64 (-1))) n s least p u6 rs g (ncur s least p n i (x + 1))) := ⟨by
                        have := HX.out.set x (-1)
                        rwa [← HOFF.out x (by omega), ncur_set _ _ _ _ _ hx2, HOFF.out x (by omega)] at this⟩
                      clear hxx
                      go_wp2_with fail
                      go_roundw
                      case rel => exact ⟨x + 1, by go_num, by omega, by omega, HNX⟩
                      case measure => simp [intOf]; omega
                    · have hxni : ¬ (x : Int) ≤ n := by omega
                      have hxe : x = n + 1 := by omega
                      have HNX : Aside0 (CR w3 wr n s least p u6 rs g (ncur s least p n i (n + 2))) := ⟨by
                        have := HX.out
                        rw [hxe] at this
                        rwa [ncur_last _ _ _ _ _ (Nat.le_refl _), ← ncur_last s least p n i (show n + 1 ≤ n + 2 by omega)] at this⟩
                      have hxv : (x : Int) + 1 = ((n + 2 : Nat) : Int) := by omega
                      clear hxe HX
                      go_wp2_with fail
                      go_roundw
                      case rel => exact ⟨n + 2, by go_num, by omega, HNX⟩
                      case measure => simp [intOf]; omega
                · have dp : decide (y4 - z4 > p) = false := decide_eq_false hsp
                  have dp2 : decide (p < y4 - z4) = false := decide_eq_false hsp
                  clear hOFF hke
                  go_upto_region 15 with fail
                  go_quiet (fail)
                  have HFIN := Aside0.mk (HCUR.out.below (bdN wA nq))
                  generalize wA.drewN nq = wD at HFIN ⊢
                  clear ke dp dp2 hsp f0 f1 f2 f3 f4 g0 g1 g2 g3 g4 fB gB sp q1 q2 q3 q4 hw1 hw2 HCUR
                  go_wp2_with fail
                  go_roundw
                  case rel => exact ⟨j + 1, by go_num, by omega, HFIN⟩
                  case measure => simp [intOf]; omega
              · have ke : ∀ W, (Op.equalIn 10000 34 (.agg #[.int .u8 y0, .int .u8 y1, .int .u8 y2, .int .u8 y3]) (.agg #[.int .u8 z0, .int .u8 z1, .int .u8 z2, .int .u8 z3])).run Try.prog W = .ok false W := fun W => by rw [kind_eql, decide_eq_false hke]
                have HOFF := Aside0.mk (hOFF (by omega))
                clear hOFF hke
                go_upto_region 15 with fail
                go_quiet (fail)
                have HFIN := Aside0.mk (HCUR.out.below (bdN wA nq))
                generalize wA.drewN nq = wD at HFIN ⊢
                clear ke f0 f1 f2 f3 f4 g0 g1 g2 g3 g4 fB gB sp q1 q2 q3 q4 hw1 hw2 HCUR
                go_wp2_with fail
                go_loopw [9] (fun v9 wr => ∃ x : Nat, v9 = .int .i64 x ∧ j + 1 ≤ x ∧ x ≤ n + 1 ∧ Aside0 (CR w3 wr n s least p u6 rs g (ncur s least p n i x))) (fun v9 _ => n + 1 - (intOf v9).toNat)
                case atStart => exact ⟨j + 1, by go_num, by omega, by omega, ⟨HFIN.out⟩⟩
                case round =>
                  obtain ⟨x, rfl, hx0, hx1, HX⟩ := hrel
                  by_cases hxn : x ≤ n
                  · have hxni : (x : Int) ≤ n := by omega
                    have hx2 : x < n + 1 := by omega
                    have hx2i : (x : Int) < (n : Int) + 1 := by omega
                    have cc := HX.out.c.at_ (ints_get _ (show x < (ncur s least p n i x).length by rw [ncur_length]; exact hx2))
                    obtain ⟨x0, hxx⟩ : ∃ z, z = (ncur s least p n i x).getD x 0 := ⟨_, rfl⟩
                    rw [← hxx] at cc
                    have cf := HX.out.c.free x
                    have HNX : Aside0 (CR w3 (wr.setCell ⟨g, x, none⟩ (.int .i64 (-1))) n s least p u6 rs g (ncur s least p n i (x + 1))) := ⟨by
                      have := HX.out.set x (-1)
                      rwa [← HOFF.out x (by omega), ncur_set _ _ _ _ _ hx2, HOFF.out x (by omega)] at this⟩
                    clear hxx
                    go_wp2_with fail
                    go_roundw
                    case rel => exact ⟨x + 1, by go_num, by omega, by omega, HNX⟩
                    case measure => simp [intOf]; omega
                  · have hxni : ¬ (x : Int) ≤ n := by omega
                    have hxe : x = n + 1 := by omega
                    have HNX : Aside0 (CR w3 wr n s least p u6 rs g (ncur s least p n i (n + 2))) := ⟨by
                      have := HX.out
                      rw [hxe] at this
                      rwa [ncur_last _ _ _ _ _ (Nat.le_refl _), ← ncur_last s least p n i (show n + 1 ≤ n + 2 by omega)] at this⟩
                    have hxv : (x : Int) + 1 = ((n + 2 : Nat) : Int) := by omega
                    clear hxe HX
                    go_wp2_with fail
                    go_roundw
                    case rel => exact ⟨n + 2, by go_num, by omega, HNX⟩
                    case measure => simp [intOf]; omega
            | some co =>
              have HV2 : Aside0 (nvR s least p i j = co) := ⟨by rw [HV.out, hcO]; rfl⟩
              obtain ⟨m1, hm1_⟩ : ∃ z, z = massD s i (j - i) := ⟨_, rfl⟩
              obtain ⟨m2, hm2_⟩ : ∃ z, z = cen s i (j - i) := ⟨_, rfl⟩
              go_upto_region 13 with ((with_reducible refine HL2.out.mono ?_); rintro e7 w7 h7; obtain ⟨A7, c7, rfl, hb7, _⟩ := rl_some h7 hcO; rw [← hm1_, ← hm2_]; have HJ7 := Aside0.mk (HJ2.out.below hb7); clear hb7 h7)
              clear s0 s1 s2 hm1_ hm2_
              generalize hwB : w7.alloc _ = wB
              have cco : wB.cell? ⟨w7.heap.size, 7, none⟩ = some (.int .i64 co) := by rw [← hwB, alloc_cell]; rfl
              have HJB : Aside0 (CR w3 wB n s least p u6 rs g ((ncur s least p n i j).set j (-1))) := ⟨by rw [← hwB]; exact HJ7.out.below (below_alloc (Below.refl _ _) _)⟩
              clear hwB HJ7
              have cc := HJB.out.c.at_ (ints_get _ (show j < ((ncur s least p n i j).set j (-1)).length by rw [List.length_set, ncur_length]; exact hj1))
              obtain ⟨x0, hx0⟩ : ∃ z, z = ((ncur s least p n i j).set j (-1)).getD j 0 := ⟨_, rfl⟩
              rw [← hx0] at cc
              have cf := HJB.out.c.free j
              clear hx0
              go_upto_region 15 with fail
              have HCUR : Aside0 (CR w3 (wB.setCell ⟨g, j, none⟩ (.int .i64 co)) n s least p u6 rs g (ncur s least p n i (j + 1))) := ⟨by
                have := HJB.out.set j co
                rwa [← HV2.out, ncur_set2 _ _ _ _ _ hj1, HV2.out] at this⟩
              generalize (wB.setCell ⟨g, j, none⟩ (.int .i64 co)) = wA at HCUR ⊢
              clear HJB cc cf cco
              have sp := (HB3.out.below HCUR.out.t.b).at_ (i := 2) rfl
              obtain ⟨aB, aA, x1, e1, e2, hx1, fB, f0, f1, f2, f3, f4⟩ := HRD.out wA HCUR.out.t.b (j - 1) (by omega)
              obtain ⟨aB2, aA2, x2, e3, e4, hx2, gB, g0, g1, g2, g3, g4⟩ := HRD.out wA HCUR.out.t.b i (by omega)
              subst e1
              subst e2
              cases e3
              cases e4
              have hx1i : (x1 : Int) < n := by omega
              have hx2i : (x2 : Int) < n := by omega
              have q1 : ((j : Int) - 1).toNat = j - 1 := by omega
              have q2 : (0 : Int) ≤ (j : Int) - 1 := by omega
              have q3 : (j : Int) - 1 < n := by omega
              have q4 : j - 1 < n := by omega
              have hm1 := (HSO.out (j - 1) (by omega)).1
              have hm2 := (HSO.out i (by omega)).1
              have hOFF : ¬ (((s i).k0 = (s (j - 1)).k0 ∧ (s i).k1 = (s (j - 1)).k1 ∧ (s i).k2 = (s (j - 1)).k2 ∧ (s i).k3 = (s (j - 1)).k3) ∧ (s (j - 1)).mic - (s i).mic ≤ p) → ∀ x, j ≤ x → nvR s least p i x = -1 := fun h x hx => by
                unfold nvR
                rw [if_pos (by omega), cO_off (by omega) hx (fun e => h ⟨of_decide_eq_true e.1, e.2⟩)]
                rfl
              obtain ⟨y0, hy0⟩ : ∃ z, z = (s (j - 1)).k0 := ⟨_, rfl⟩
              obtain ⟨y1, hy1⟩ : ∃ z, z = (s (j - 1)).k1 := ⟨_, rfl⟩
              obtain ⟨y2, hy2⟩ : ∃ z, z = (s (j - 1)).k2 := ⟨_, rfl⟩
              obtain ⟨y3, hy3⟩ : ∃ z, z = (s (j - 1)).k3 := ⟨_, rfl⟩
              obtain ⟨y4, hy4⟩ : ∃ z, z = (s (j - 1)).mic := ⟨_, rfl⟩
              obtain ⟨z0, hz0⟩ : ∃ z, z = (s i).k0 := ⟨_, rfl⟩
              obtain ⟨z1, hz1⟩ : ∃ z, z = (s i).k1 := ⟨_, rfl⟩
              obtain ⟨z2, hz2⟩ : ∃ z, z = (s i).k2 := ⟨_, rfl⟩
              obtain ⟨z3, hz3⟩ : ∃ z, z = (s i).k3 := ⟨_, rfl⟩
              obtain ⟨z4, hz4⟩ : ∃ z, z = (s i).mic := ⟨_, rfl⟩
              rw [← hy0, ← hy1, ← hy2, ← hy3, ← hy4, ← hz0, ← hz1, ← hz2, ← hz3, ← hz4] at hOFF
              rw [← hy0] at f0
              rw [← hy1] at f1
              rw [← hy2] at f2
              rw [← hy3] at f3
              rw [← hy4] at f4 hm1
              rw [← hz0] at g0
              rw [← hz1] at g1
              rw [← hz2] at g2
              rw [← hz3] at g3
              rw [← hz4] at g4 hm2
              clear hy0 hy1 hy2 hy3 hy4 hz0 hz1 hz2 hz3 hz4
              obtain ⟨hm10, hm11⟩ := hm1
              obtain ⟨hm20, hm21⟩ := hm2
              have hw1 : IntKind.i64.wrap ((j : Int) - 1) = (j : Int) - 1 := IntWalk.i64_in _ (by omega)
              have hw2 : IntKind.i64.wrap (y4 - z4) = y4 - z4 := IntWalk.i64_in _ (by omega)
              by_cases hke : y0 = z0 ∧ y1 = z1 ∧ y2 = z2 ∧ y3 = z3
              · have ke : ∀ W, (Op.equalIn 10000 34 (.agg #[.int .u8 y0, .int .u8 y1, .int .u8 y2, .int .u8 y3]) (.agg #[.int .u8 z0, .int .u8 z1, .int .u8 z2, .int .u8 z3])).run Try.prog W = .ok true W := fun W => by rw [kind_eql, decide_eq_true hke]
                by_cases hsp : y4 - z4 > p
                · have dp : decide (y4 - z4 > p) = true := decide_eq_true hsp
                  have dp2 : decide (p < y4 - z4) = true := decide_eq_true hsp
                  have HOFF := Aside0.mk (hOFF (by omega))
                  clear hOFF hke
                  go_upto_region 15 with fail
                  go_quiet (fail)
                  have HFIN := Aside0.mk (HCUR.out.below (bdN wA nq))
                  generalize wA.drewN nq = wD at HFIN ⊢
                  clear ke dp dp2 hsp f0 f1 f2 f3 f4 g0 g1 g2 g3 g4 fB gB sp q1 q2 q3 q4 hw1 hw2 HCUR
                  go_wp2_with fail
                  go_loopw [9] (fun v9 wr => ∃ x : Nat, v9 = .int .i64 x ∧ j + 1 ≤ x ∧ x ≤ n + 1 ∧ Aside0 (CR w3 wr n s least p u6 rs g (ncur s least p n i x))) (fun v9 _ => n + 1 - (intOf v9).toNat)
                  case atStart => exact ⟨j + 1, by go_num, by omega, by omega, ⟨HFIN.out⟩⟩
                  case round =>
                    obtain ⟨x, rfl, hx0, hx1, HX⟩ := hrel
                    by_cases hxn : x ≤ n
                    · have hxni : (x : Int) ≤ n := by omega
                      have hx2 : x < n + 1 := by omega
                      have hx2i : (x : Int) < (n : Int) + 1 := by omega
                      have cc := HX.out.c.at_ (ints_get _ (show x < (ncur s least p n i x).length by rw [ncur_length]; exact hx2))
                      obtain ⟨x0, hxx⟩ : ∃ z, z = (ncur s least p n i x).getD x 0 := ⟨_, rfl⟩
                      rw [← hxx] at cc
                      have cf := HX.out.c.free x
                      have HNX : Aside0 (CR w3 (wr.setCell ⟨g, x, none⟩ (.int .i64 (-1))) n s least p u6 rs g (ncur s least p n i (x + 1))) := ⟨by
                        have := HX.out.set x (-1)
                        rwa [← HOFF.out x (by omega), ncur_set _ _ _ _ _ hx2, HOFF.out x (by omega)] at this⟩
                      clear hxx
                      go_wp2_with fail
                      go_roundw
                      case rel => exact ⟨x + 1, by go_num, by omega, by omega, HNX⟩
                      case measure => simp [intOf]; omega
                    · have hxni : ¬ (x : Int) ≤ n := by omega
                      have hxe : x = n + 1 := by omega
                      have HNX : Aside0 (CR w3 wr n s least p u6 rs g (ncur s least p n i (n + 2))) := ⟨by
                        have := HX.out
                        rw [hxe] at this
                        rwa [ncur_last _ _ _ _ _ (Nat.le_refl _), ← ncur_last s least p n i (show n + 1 ≤ n + 2 by omega)] at this⟩
                      have hxv : (x : Int) + 1 = ((n + 2 : Nat) : Int) := by omega
                      clear hxe HX
                      go_wp2_with fail
                      go_roundw
                      case rel => exact ⟨n + 2, by go_num, by omega, HNX⟩
                      case measure => simp [intOf]; omega
                · have dp : decide (y4 - z4 > p) = false := decide_eq_false hsp
                  have dp2 : decide (p < y4 - z4) = false := decide_eq_false hsp
                  clear hOFF hke
                  go_upto_region 15 with fail
                  go_quiet (fail)
                  have HFIN := Aside0.mk (HCUR.out.below (bdN wA nq))
                  generalize wA.drewN nq = wD at HFIN ⊢
                  clear ke dp dp2 hsp f0 f1 f2 f3 f4 g0 g1 g2 g3 g4 fB gB sp q1 q2 q3 q4 hw1 hw2 HCUR
                  go_wp2_with fail
                  go_roundw
                  case rel => exact ⟨j + 1, by go_num, by omega, HFIN⟩
                  case measure => simp [intOf]; omega
              · have ke : ∀ W, (Op.equalIn 10000 34 (.agg #[.int .u8 y0, .int .u8 y1, .int .u8 y2, .int .u8 y3]) (.agg #[.int .u8 z0, .int .u8 z1, .int .u8 z2, .int .u8 z3])).run Try.prog W = .ok false W := fun W => by rw [kind_eql, decide_eq_false hke]
                have HOFF := Aside0.mk (hOFF (by omega))
                clear hOFF hke
                go_upto_region 15 with fail
                go_quiet (fail)
                have HFIN := Aside0.mk (HCUR.out.below (bdN wA nq))
                generalize wA.drewN nq = wD at HFIN ⊢
                clear ke f0 f1 f2 f3 f4 g0 g1 g2 g3 g4 fB gB sp q1 q2 q3 q4 hw1 hw2 HCUR
                go_wp2_with fail
                go_loopw [9] (fun v9 wr => ∃ x : Nat, v9 = .int .i64 x ∧ j + 1 ≤ x ∧ x ≤ n + 1 ∧ Aside0 (CR w3 wr n s least p u6 rs g (ncur s least p n i x))) (fun v9 _ => n + 1 - (intOf v9).toNat)
                case atStart => exact ⟨j + 1, by go_num, by omega, by omega, ⟨HFIN.out⟩⟩
                case round =>
                  obtain ⟨x, rfl, hx0, hx1, HX⟩ := hrel
                  by_cases hxn : x ≤ n
                  · have hxni : (x : Int) ≤ n := by omega
                    have hx2 : x < n + 1 := by omega
                    have hx2i : (x : Int) < (n : Int) + 1 := by omega
                    have cc := HX.out.c.at_ (ints_get _ (show x < (ncur s least p n i x).length by rw [ncur_length]; exact hx2))
                    obtain ⟨x0, hxx⟩ : ∃ z, z = (ncur s least p n i x).getD x 0 := ⟨_, rfl⟩
                    rw [← hxx] at cc
                    have cf := HX.out.c.free x
                    have HNX : Aside0 (CR w3 (wr.setCell ⟨g, x, none⟩ (.int .i64 (-1))) n s least p u6 rs g (ncur s least p n i (x + 1))) := ⟨by
                      have := HX.out.set x (-1)
                      rwa [← HOFF.out x (by omega), ncur_set _ _ _ _ _ hx2, HOFF.out x (by omega)] at this⟩
                    clear hxx
                    go_wp2_with fail
                    go_roundw
                    case rel => exact ⟨x + 1, by go_num, by omega, by omega, HNX⟩
                    case measure => simp [intOf]; omega
                  · have hxni : ¬ (x : Int) ≤ n := by omega
                    have hxe : x = n + 1 := by omega
                    have HNX : Aside0 (CR w3 wr n s least p u6 rs g (ncur s least p n i (n + 2))) := ⟨by
                      have := HX.out
                      rw [hxe] at this
                      rwa [ncur_last _ _ _ _ _ (Nat.le_refl _), ← ncur_last s least p n i (show n + 1 ≤ n + 2 by omega)] at this⟩
                    have hxv : (x : Int) + 1 = ((n + 2 : Nat) : Int) := by omega
                    clear hxe HX
                    go_wp2_with fail
                    go_roundw
                    case rel => exact ⟨n + 2, by go_num, by omega, HNX⟩
                    case measure => simp [intOf]; omega
        · have hjni : ¬ (j : Int) ≤ n := by omega
          have HROW : Aside0 (CR w3 wr n s least p u6 rs g (nrow s least p n rs.length)) := ⟨by
            have := HJ.out
            rwa [ncur_last _ _ _ _ _ (show n + 1 ≤ j by omega), ← HRL.out] at this⟩
          clear HJ
          go_upto_region 5 with ((with_reducible refine gate_builtin (b := .append) (xs := #[.tmp 103, .tmp 105]) rfl ?_); at_builtin; refine Kd.R_append (kS n) (w0 := w3) w3.heap.size rfl (.tmp 103) (.tmp 105) 101 35 (.slice none 0 0) 24 rfl Try.underlying101 (infoS n) rfl (show 0 < 1 by decide) (by decide) u6 rs g [.slice (some ⟨g, 0, none⟩) (n + 1) (n + 1)] (fun _ => True) (fun _ => False) rfl rfl ?aP (fun _ hk => hk.elim) ?aF ?aO ?aB ?aS ?aL ?_; (case aP => exact rfl); (case aB => exact HROW.out.t.b); (case aF => exact (fun _ _ => trivial)); (case aO => exact HROW.out.t.o); (case aS => exact HROW.out.t.b.size); (case aL => rw [HRL.out]; omega); intro v8 w8 ho hb hg hat; have H8 := Aside0.mk (HROW.out.done ho hb hg); clear ho hb hg hat)
          go_wp2_with fail
          go_roundw
          case rel => exact ⟨i + 1, rs ++ [g], by go_num, by omega, ⟨by rw [List.length_append, HRL.out]; rfl, H8.out⟩⟩
          case measure => simp [intOf]; omega
    · have hlti : ¬ (i : Int) < n := by omega
      go_wp2_with fail
      go_ret
      exact ⟨_, rs, w3, rfl, HI.out.2, by rw [HI.out.1]; omega, below_step HBW.out HI.out.2.b⟩
end Go.Proofs.Ythkfahkkcjagdaa

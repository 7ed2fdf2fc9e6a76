/- The least costs of the rests as the reference lays them: plain rows, and the table in memory. -/
import Derived.Test.YthkfahkkcjagdaaRc5
import Derived.Test.YthkfahkkcjagdaaRc6
namespace Go.Proofs.Ythkfahkkcjagdaa
open Go.RowKit Go.Proofs.YthkfahkkcjagdaaW.PrintWords Go.Proofs.YthkfahkkcjagdaaW.PrintMore Go.Proofs.YthkfahkkcjagdaaW.PrintLast

section
variable (s : Nat → Fl) (least p : Int) (n most : Nat)
def rsRow (i : Nat) : List Int := (List.range (most + 1)).map fun x => negO (restO s least p n x i)
def rsPart (i k : Nat) : List Int := (List.range (most + 1)).map fun x => if x < k then negO (restO s least p n x i) else 0
def rsMin (i k d : Nat) : Option Int := minO (fun d => addO (cO s least p i (d + 1)) (restO s least p n k (i + d + 1))) d
def rsCur (i k d : Nat) : List Int := (List.range (most + 1)).map fun x => if x < k then negO (restO s least p n x i) else if x = k then negO (rsMin s least p n i (k - 1) d) else 0
theorem rsRow_length (i : Nat) : (rsRow s least p n most i).length = most + 1 := by simp [rsRow]
theorem rsPart_length (i k : Nat) : (rsPart s least p n most i k).length = most + 1 := by simp [rsPart]
theorem rsCur_length (i k d : Nat) : (rsCur s least p n most i k d).length = most + 1 := by simp [rsCur]
theorem rsPart_init (i : Nat) : List.replicate (most + 1) 0 = rsPart s least p n most i 0 := by
  refine List.ext_getElem? fun j => ?_
  unfold rsPart
  rw [List.getElem?_map, List.getElem?_replicate]
  by_cases hj : j < most + 1
  · rw [List.getElem?_range hj, if_pos hj]; rfl
  · rw [List.getElem?_eq_none (by simp; omega), if_neg hj]; rfl
theorem rsPart_last (i : Nat) : rsPart s least p n most i (most + 1) = rsRow s least p n most i := by
  unfold rsPart rsRow
  refine List.map_congr_left fun j hj => ?_
  rw [if_pos (List.mem_range.1 hj)]
theorem rsPart_neg (i : Nat) {k : Nat} (hk : k ≤ most) : (rsPart s least p n most i k).set k (-1) = rsCur s least p n most i k 0 := by
  unfold rsPart rsCur
  refine map_set_range _ _ _ _ _ (by omega) ?_ fun j hj hne => ?_
  · rw [if_neg (by omega), if_pos rfl]; rfl
  · by_cases h : j < k
    · rw [if_pos h, if_pos h]
    · rw [if_neg h, if_neg hne, if_neg h]
theorem rsCur_zero {i : Nat} (hi : i < n) : rsCur s least p n most i 0 0 = rsPart s least p n most i 1 := by
  unfold rsCur rsPart
  refine List.map_congr_left fun j _ => ?_
  by_cases h : j = 0
  · subst h
    rw [if_neg (by omega), if_pos rfl, if_pos (by omega)]
    show (-1 : Int) = negO (if i = n then some 0 else none)
    rw [if_neg (by omega)]; rfl
  · rw [if_neg (by omega), if_neg h, if_neg (by omega)]
theorem rsCur_end : (rsCur s least p n most n 0 0).set 0 0 = rsPart s least p n most n 1 := by
  unfold rsCur rsPart
  refine map_set_range _ _ _ _ _ (by omega) ?_ fun j hj hne => ?_
  · rw [if_pos (by omega)]
    show negO (if n = n then some 0 else none) = 0
    rw [if_pos rfl]; rfl
  · rw [if_neg (by omega), if_neg (by omega), if_neg hne]
theorem rsCur_set (i : Nat) {k d : Nat} (hk : k ≤ most) : (rsCur s least p n most i k d).set k (negO (rsMin s least p n i (k - 1) (d + 1))) = rsCur s least p n most i k (d + 1) := by
  unfold rsCur
  refine map_set_range _ _ _ _ _ (by omega) ?_ fun j hj hne => ?_
  · rw [if_neg (by omega), if_pos rfl]
  · by_cases h : j < k
    · rw [if_pos h, if_pos h]
    · rw [if_neg h, if_neg hne, if_neg h, if_neg hne]
theorem rsMin_same {i k d : Nat} (h : addO (cO s least p i (d + 1)) (restO s least p n k (i + d + 1)) = none) : rsMin s least p n i k (d + 1) = rsMin s least p n i k d := by
  unfold rsMin
  show omin _ (addO (cO s least p i (d + 1)) (restO s least p n k (i + d + 1))) = _
  rw [h]
  cases minO (fun d => addO (cO s least p i (d + 1)) (restO s least p n k (i + d + 1))) d <;> rfl
theorem rsCur_same {i k d : Nat} (h : negO (rsMin s least p n i (k - 1) (d + 1)) = negO (rsMin s least p n i (k - 1) d)) : rsCur s least p n most i k d = rsCur s least p n most i k (d + 1) := by
  unfold rsCur
  rw [h]
theorem rsCur_last {i k : Nat} : rsCur s least p n most i (k + 1) (n - i) = rsPart s least p n most i (k + 2) := by
  unfold rsCur rsPart
  refine List.map_congr_left fun j _ => ?_
  by_cases h : j < k + 1
  · rw [if_pos h, if_pos (by omega)]
  · rw [if_neg h]
    by_cases e : j = k + 1
    · rw [if_pos e, if_pos (by omega), e]; rfl
    · rw [if_neg e, if_neg (by omega)]
theorem rsCur_own {i k d : Nat} (hk : k ≤ most) : (rsCur s least p n most i k d).getD k 0 = negO (rsMin s least p n i (k - 1) d) := by
  unfold rsCur
  rw [range_map_get _ (by omega), if_neg (by omega), if_pos rfl]
theorem rsRow_at {i k : Nat} (hk : k ≤ most) : (rsRow s least p n most i).getD k 0 = negO (restO s least p n k i) := by
  unfold rsRow
  rw [range_map_get _ (by omega)]
theorem rsMin_bd (hs : SOK s n) {i k d : Nat} (hd : i + d ≤ n) {v : Int} (h : rsMin s least p n i k d = some v) : 0 ≤ v := by
  obtain ⟨⟨e, he, hev⟩, _⟩ := minO_le _ _ _ h
  obtain ⟨x, y, e1, e2, rfl⟩ := addO_some hev
  have h1 := cO_bd hs (by omega) (by omega) e1
  have h2 := restO_bd hs k (i + e + 1) y (by omega) e2
  omega
theorem rsMin_some {i k d : Nat} {v : Int} (hb : ∀ u, rsMin s least p n i k d = some u → 0 ≤ u) (hv : addO (cO s least p i (d + 1)) (restO s least p n k (i + d + 1)) = some v) :
    negO (rsMin s least p n i k (d + 1)) = if negO (rsMin s least p n i k d) = -1 ∨ v < negO (rsMin s least p n i k d) then v else negO (rsMin s least p n i k d) := by
  show negO (omin (rsMin s least p n i k d) (addO (cO s least p i (d + 1)) (restO s least p n k (i + d + 1)))) = _
  rw [hv]
  cases hm : rsMin s least p n i k d with
  | none => rw [if_pos (.inl rfl)]; rfl
  | some u =>
    have h0 := hb u hm
    show min u v = if u = -1 ∨ v < u then v else u
    split <;> omega
/-- The rows while row i is filled in: it holds X. -/
def FX (i : Nat) (X : List Int) : Nat → List Int := fun a => if a < i then List.replicate (most + 1) 0 else if a = i then X else rsRow s least p n most a
def FO (i : Nat) : Nat → List Int := fun a => if a < i then List.replicate (most + 1) 0 else rsRow s least p n most a
theorem FX_new (i : Nat) : FO s least p n most (i + 1) = FX s least p n most i (rsPart s least p n most i 0) := by
  funext a
  unfold FO FX
  by_cases h : a < i
  · rw [if_pos h, if_pos (by omega)]
  · by_cases e : a = i
    · rw [if_pos (by omega), if_neg h, if_pos e, ← rsPart_init]
    · rw [if_neg (by omega), if_neg h, if_neg e]
theorem FX_done (i : Nat) : FX s least p n most i (rsPart s least p n most i (most + 1)) = FO s least p n most i := by
  funext a
  unfold FO FX
  by_cases h : a < i
  · rw [if_pos h, if_pos h]
  · by_cases e : a = i
    · rw [if_neg h, if_pos e, if_neg h, rsPart_last, e]
    · rw [if_neg h, if_neg e, if_neg h]
theorem FO_zero : FO s least p n most 0 = rsRow s least p n most := by
  funext a
  unfold FO
  rw [if_neg (by omega)]
theorem FX_at (i : Nat) (X : List Int) : FX s least p n most i X i = X := by
  unfold FX
  rw [if_neg (by omega), if_pos rfl]
theorem FX_far {i j : Nat} (h : i < j) (X : List Int) : FX s least p n most i X j = rsRow s least p n most j := by
  unfold FX
  rw [if_neg (by omega), if_neg (by omega)]
end
/-- A table of rows in memory of its own. -/
structure OT (w wr : World) (most : Nat) (v : Value) (rs : List Nat) (F : Nat → List Int) : Prop where
  b : Below w.heap.size w wr
  o : (kS most).R 35 wr w.heap.size (fun _ => True) v rs
  r : ∀ a, a < rs.length → Blk wr (rs.getD a 0) (ints (F a)) 3
  hb : ∀ a, a < rs.length → w.heap.size ≤ rs.getD a 0
  ne : ∀ a c, a < c → c < rs.length → rs.getD a 0 ≠ rs.getD c 0
section
variable {w wr w1 : World} {most : Nat} {v v1 : Value} {rs : List Nat} {F G : Nat → List Int}
theorem OT.below (h : OT w wr most v rs F) (k : Below wr.heap.size wr w1) : OT w w1 most v rs F :=
  ⟨below_step h.b k, Kd.R_below h.o k, fun a ha => (h.r a ha).below k, h.hb, h.ne⟩
theorem OT.congr (h : OT w wr most v rs F) (e : ∀ a, a < rs.length → F a = G a) : OT w wr most v rs G :=
  ⟨h.b, h.o, fun a ha => by rw [← e a ha]; exact h.r a ha, h.hb, h.ne⟩
/-- And a row more that was made. -/
def OTN (w w5 : World) (most : Nat) (v : Value) (rs : List Nat) (zs : List Int) (g : Nat) : Prop := OT w w5 most v rs (fun _ => zs) ∧ Blk w5 g (ints zs) 3 ∧ w.heap.size ≤ g ∧ ∀ a, a < rs.length → rs.getD a 0 < g
theorem OT.made {zs : List Int} (h : OT w wr most v rs (fun _ => zs)) : OTN w (wr.alloc (.cells (ints zs).toArray 3)) most v rs zs wr.heap.size :=
  ⟨h.below (below_alloc (Below.refl wr.heap.size wr) _), Blk.new wr (ints zs) 3, h.b.size, fun a ha => (h.r a ha).lt⟩
theorem OTN.grow {w5 : World} {zs : List Int} {g : Nat} (h : OTN w w5 most v rs zs g) (ho : (kS most).R 35 w1 w.heap.size (fun _ => True) v1 (rs ++ [g])) (hb : Below w.heap.size w w1)
    (hg : w5.grownBy w1 v.ownBlock) : OT w w1 most v1 (rs ++ [g]) (fun _ => zs) := by
  obtain ⟨hA, hN, hg0, hlt⟩ := h
  have hk : ∀ b cs, Blk w5 b cs 3 → Blk w1 b cs 3 := fun b cs hbk => (hg.block b hbk.lt (Kd.R_ne hA.o hbk (by decide))).trans hbk
  refine ⟨hb, ho, fun a ha => ?_, fun a ha => ?_, fun a c hac hc => ?_⟩
  · rw [List.length_append, List.length_singleton] at ha
    rcases (show a < rs.length ∨ a = rs.length by omega) with h1 | h1
    · rw [getD_append_lt h1]; exact hk _ _ (hA.r a h1)
    · rw [getD_append_eq h1]; exact hk _ _ hN
  · rw [List.length_append, List.length_singleton] at ha
    rcases (show a < rs.length ∨ a = rs.length by omega) with h1 | h1
    · rw [getD_append_lt h1]; exact hA.hb a h1
    · rw [getD_append_eq h1]; exact hg0
  · rw [List.length_append, List.length_singleton] at hc
    rcases (show c < rs.length ∨ c = rs.length by omega) with h1 | h1
    · rw [getD_append_lt h1, getD_append_lt (by omega)]; exact hA.ne a c hac h1
    · rw [getD_append_eq h1, getD_append_lt (by omega)]; exact Nat.ne_of_lt (hlt a (by omega))
/-- A world gets a name of its own. -/
theorem hid_wq {Pr : Program} {ops : Array Oper} {Q : Exit → Act → World → Prop} {rest : List Oper} {a : Act} {W : World} {P : World → Prop} (h : P W) (k : ∀ w, P w → wpList Pr ops Q rest a w) : wpList Pr ops Q rest a W := k W h
theorem OT.read (h : OT w wr most v rs F) {a : Nat} (ha : a < rs.length) : ∃ ad cap, v = .slice (some ad) rs.length cap ∧ rs.length ≤ cap ∧ wr.cell? (ad.add a) = some (.slice (some ⟨rs.getD a 0, 0, none⟩) (most + 1) (most + 1)) := by
  obtain ⟨A, cap, e, hc, hr⟩ := Kd.R_reads h.o
  obtain ⟨ad, cc, h1, h2, h3, h4⟩ := Kd.C_get hr 0 (a : Int) (by omega) (by omega)
  subst h1
  refine ⟨ad, cap, e, hc, ?_⟩
  have h6 : cc = [.slice (some ⟨rs.getD (a : Int).toNat 0, 0, none⟩) (most + 1) (most + 1)] := h3
  have := h4 0 _ (by rw [h6]; rfl)
  rw [Int.toNat_natCast] at this
  have e2 : ad.add (a * (kS most).sz + 0) = ad.add a := by
    show ad.add (a * 1 + 0) = _
    rw [Nat.mul_one, Nat.add_zero]
  rwa [e2] at this
theorem OT.setX {s : Nat → Fl} {least p : Int} {n i : Nat} {X : List Int} (h : OT w wr most v rs (FX s least p n most i X)) (hi : i < rs.length) (j : Nat) (x : Int) :
    OT w (wr.setCell ⟨rs.getD i 0, j, none⟩ (.int .i64 x)) most v rs (FX s least p n most i (X.set j x)) := by
  have hri := h.r i hi
  rw [FX_at] at hri
  refine ⟨h.b.setCell (h.hb i hi) _, Kd.R_set h.o hri (tS most) j _, fun a ha => ?_, h.hb, h.ne⟩
  by_cases e : a = i
  · subst e
    rw [FX_at]
    have := hri.set j (.int .i64 x)
    rwa [ints_set] at this
  · have hne : rs.getD a 0 ≠ rs.getD i 0 := by
      rcases Nat.lt_or_gt_of_ne e with hl | hl
      · exact h.ne a i hl hi
      · exact fun h2 => h.ne i a hl ha h2.symm
    have e2 : FX s least p n most i (X.set j x) a = FX s least p n most i X a := by
      unfold FX
      by_cases h3 : a < i
      · rw [if_pos h3, if_pos h3]
      · rw [if_neg h3, if_neg e, if_neg h3, if_neg e]
    rw [e2]
    exact (h.r a ha).far hne _
end
end Go.Proofs.Ythkfahkkcjagdaa
namespace Go.Proofs.Ythkfahkkcjagdaa
open Go.RowKit Go.Proofs.YthkfahkkcjagdaaW.PrintWords Go.Proofs.YthkfahkkcjagdaaW.PrintMore Go.Proofs.YthkfahkkcjagdaaW.PrintLast

def RestsPost (w : World) (n most : Nat) (s : Nat → Fl) (least p : Int) (e : Ending) (w' : World) : Prop := ∃ v rs, e = .returned v ∧ OT w w' most v rs (rsRow s least p n most) ∧ rs.length = n + 1
set_option maxHeartbeats 16000000 in
set_option maxRecDepth 100000 in
theorem rests_any (w w0 : World) (v0 : Value) (rs0 : List Nat) (n most : Nat) (s : Nat → Fl) (least p : Int) (hC : CT w0 w n s least p v0 rs0) (hl : rs0.length = n) (hn : n ≤ 128) (hm : most ≤ 16) (hs : SOK s n) :
    Calls Try.prog 66 #[v0, .int .i64 most] w (RestsPost w n most s least p) := by
  obtain ⟨A0, cap0, ev0, hc0, _⟩ := Kd.R_reads hC.o
  rw [hl] at ev0 hc0
  subst ev0
  have HC := Aside0.mk (And.intro hC hl)
  have HSO := Aside0.mk hs
  have mk1 := print_make (P := Try.prog) 35 3 .i64 8 Try.underlying35 info3 (by decide) (most + 1) (by omega)
  rw [show ((most + 1 : Nat) : Int) = (most : Int) + 1 by omega] at mk1
  simp only [made_ints] at mk1
  clear hC hl hs
  go_enter Try.func66, Try.ntmps66
  go_wp2_with fail
  go_loopw [6, 7] (fun v6 v7 wr => ∃ (i : Nat) (rs : List Nat), v7 = .int .i64 i ∧ i ≤ n + 1 ∧ Aside0 (rs.length = i ∧ OT w wr most v6 rs (fun _ => List.replicate (most + 1) 0))) (fun _ v7 _ => n + 1 - (intOf v7).toNat)
  case atStart => exact ⟨0, [], rfl, by omega, ⟨rfl, Below.refl _ _, Kd.R_nil _ _ _ _ _, fun a ha => by simp at ha, fun a ha => by simp at ha, fun a c _ ha => by simp at ha⟩⟩
  case round =>
    obtain ⟨i, rs, rfl, hi, HI⟩ := hrel
    by_cases hlt : i ≤ n
    · have hlti : (i : Int) ≤ n := by omega
      have HM := Aside0.mk HI.out.2.made
      go_upto_region 5 with (first
        | ((with_reducible refine gate_dst (N := 23) rfl ?_); refine hid_wq (P := fun W => OTN w W most u6 rs (List.replicate (most + 1) 0) wr.heap.size) HM.out ?_; intro w5 h5; have H5 := Aside0.mk h5; clear h5)
        | ((with_reducible refine gate_builtin (b := .append) (xs := #[.tmp 19, .tmp 23]) rfl ?_); at_builtin; refine Kd.R_append (kS most) (w0 := w) w.heap.size rfl (.tmp 19) (.tmp 23) 101 35 (.slice none 0 0) 24 rfl Try.underlying101 (infoS most) rfl (show 0 < 1 by decide) (by decide) u6 rs wr.heap.size [.slice (some ⟨wr.heap.size, 0, none⟩) (most + 1) (most + 1)] (fun _ => True) (fun _ => False) rfl rfl ?aP (fun _ hk => hk.elim) ?aF ?aO ?aB ?aS ?aL ?_; (case aP => exact rfl); (case aB => exact H5.out.1.b); (case aF => exact (fun _ _ => trivial)); (case aO => exact H5.out.1.o); (case aS => exact H5.out.1.b.size); (case aL => rw [HI.out.1]; omega); intro v8 w8 ho hb hg hat; have H8 := Aside0.mk (H5.out.grow ho hb hg); clear ho hb hg hat))
      go_wp2_with fail
      go_roundw
      case rel => exact ⟨i + 1, rs ++ [wr.heap.size], by go_num, by omega, ⟨by rw [List.length_append, HI.out.1]; rfl, H8.out⟩⟩
      case measure => simp [intOf]; omega
    · have hlti : ¬ (i : Int) ≤ n := by omega
      obtain rfl : i = n + 1 := by omega
      clear mk1
      obtain ⟨A1, cap1, ev1, hc1, _⟩ := Kd.R_reads HI.out.2.o
      rw [HI.out.1] at ev1 hc1
      subst ev1
      have HRL := Aside0.mk HI.out.1
      have HO := Aside0.mk (HI.out.2.congr (G := FO s least p n most (n + 1)) (fun a ha => by
        unfold FO
        rw [if_pos (by rw [HRL.out] at ha; exact ha)]))
      clear HI
      go_wp2_with fail
      go_loopw [8, 9, 10, 11] (fun v8 _ _ _ wr => ∃ i : Nat, v8 = .int .i64 ((i : Int) - 1) ∧ i ≤ n + 1 ∧ Aside0 (OT w wr most (.slice A1 (n + 1 : Nat) cap1) rs (FO s least p n most i))) (fun v8 _ _ _ _ => (intOf v8 + 1).toNat)
      case atStart => exact ⟨n + 1, by go_num, by omega, HO⟩
      case round =>
        obtain ⟨i, rfl, hi, HI⟩ := hrel
        clear HO
        rcases i with _ | i
        · have h00 : (((0 : Nat) : Int)) = 0 := rfl
          go_wp2_with fail
          go_ret
          exact ⟨_, rs, rfl, by rw [← FO_zero]; exact HI.out, HRL.out⟩
        · have hi1 : ((i + 1 : Nat) : Int) - 1 = i := by omega
          have hin : i ≤ n := by omega
          rw [hi1]
          have hF := HI.out
          rw [FX_new] at hF
          have HF := Aside0.mk hF
          clear hF HI
          go_wp2_with fail
          go_loopw [9, 10, 11] (fun v9 _ _ wr => ∃ k : Nat, v9 = .int .i64 k ∧ k ≤ most + 1 ∧ Aside0 (OT w wr most (.slice A1 (n + 1 : Nat) cap1) rs (FX s least p n most i (rsPart s least p n most i k)))) (fun v9 _ _ _ => most + 1 - (intOf v9).toNat)
          case atStart => exact ⟨0, rfl, by omega, HF⟩
          case round =>
            obtain ⟨k, rfl, hk, HK⟩ := hrel
            clear HF
            by_cases hkm : k ≤ most
            · have hkmi : (k : Int) ≤ most := by omega
              obtain ⟨ad, cap, ecv, hcap, g1⟩ := HK.out.read (a := i) (by rw [HRL.out]; omega)
              rw [HRL.out] at ecv hcap
              cases ecv
              have hrb := HK.out.r i (by rw [HRL.out]; omega)
              rw [FX_at] at hrb
              have cc := hrb.at_ (ints_get _ (show k < (rsPart s least p n most i k).length by rw [rsPart_length]; omega))
              have cf := hrb.free k
              obtain ⟨ri, hri⟩ : ∃ z, z = rs.getD i 0 := ⟨_, rfl⟩
              obtain ⟨y0, hy0⟩ : ∃ z, z = (rsPart s least p n most i k).getD k 0 := ⟨_, rfl⟩
              rw [← hri] at g1 cc cf
              rw [← hy0] at cc
              have HRI := Aside0.mk hri
              clear hri hy0 hrb
              have q1 : (0 : Int) ≤ (i : Int) := by omega
              have q2 : (i : Int) < (n : Int) + 1 := by omega
              have q3 : i < n + 1 := by omega
              have q4 : (k : Int) < (most : Int) + 1 := by omega
              have q5 : k < most + 1 := by omega
              go_upto_region 14 with fail
              clear cc cf g1
              have hst := HK.out.setX (i := i) (by rw [HRL.out]; omega) k (-1)
              rw [rsPart_neg _ _ _ _ _ _ hkm, ← HRI.out] at hst
              generalize wr.setCell ⟨ri, k, none⟩ (.int .i64 (-1)) = w8 at hst ⊢
              have H8 := Aside0.mk hst
              clear hst HK
              by_cases hk0 : k = 0
              · have dk1 : ((k : Int) == 0) = true := by subst hk0; rfl
                have dk2 : decide ((k : Int) > 0) = false := decide_eq_false (by omega)
                have dk3 : decide (0 < k) = false := decide_eq_false (by omega)
                by_cases hin2 : i = n
                · have di : ((i : Int) == (n : Int)) = true := by subst hin2; simp
                  obtain ⟨ad, cap, ecv, hcap, g1⟩ := H8.out.read (a := i) (by rw [HRL.out]; omega)
                  rw [HRL.out] at ecv hcap
                  cases ecv
                  have hrb := H8.out.r i (by rw [HRL.out]; omega)
                  rw [FX_at] at hrb
                  have cc := hrb.at_ (ints_get _ (show k < (rsCur s least p n most i k 0).length by rw [rsCur_length]; omega))
                  have cf := hrb.free k
                  obtain ⟨y0, hy0⟩ : ∃ z, z = (rsCur s least p n most i k 0).getD k 0 := ⟨_, rfl⟩
                  rw [← HRI.out] at g1 cc cf
                  rw [← hy0] at cc
                  have hst := H8.out.setX (i := i) (by rw [HRL.out]; omega) k 0
                  rw [show (rsCur s least p n most i k 0).set k 0 = rsPart s least p n most i (k + 1) by rw [hk0, hin2]; exact rsCur_end s least p n most, ← HRI.out] at hst
                  have HST := Aside0.mk hst
                  have hlst : ¬ ((i : Int) + 1 ≤ n) := by omega
                  have HK0 := Aside0.mk hk0
                  have HI0 := Aside0.mk hin2
                  clear hy0 hrb hst hk0 hin2
                  go_upto_region 16 with fail
                  clear cc cf g1
                  generalize w8.setCell ⟨ri, k, none⟩ (.int .i64 0) = w9 at HST ⊢
                  have hlt4 : ¬ ((i : Int) + 1 ≤ n) := by omega
                  go_wp2_with fail
                  refine wp_loop_rounds 1 ?_
                  rw [rounds_succ]
                  go_wp2_with fail
                  go_roundw
                  case rel => exact ⟨k + 1, by go_num, by omega, HST⟩
                  case measure => simp [intOf]; omega
                · have di : ((i : Int) == (n : Int)) = false := by simp; omega
                  have dj : (i == n) = false := by simpa using hin2
                  have hst := H8.out
                  rw [show rsCur s least p n most i k 0 = rsPart s least p n most i (k + 1) by rw [hk0]; exact rsCur_zero s least p n most (by omega)] at hst
                  have HST := Aside0.mk hst
                  clear hst hk0
                  go_upto_region 16 with fail
                  go_wp2_with fail
                  refine wp_loop_rounds 1 ?_
                  rw [rounds_succ]
                  go_wp2_with fail
                  go_roundw
                  case rel => exact ⟨k + 1, by go_num, by omega, HST⟩
                  case measure => simp [intOf]; omega
              · obtain ⟨k', rfl⟩ : ∃ k', k = k' + 1 := ⟨k - 1, by omega⟩
                have dk1 : (((k' + 1 : Nat) : Int) == 0) = false := by simp; omega
                have dk2 : decide (((k' + 1 : Nat) : Int) > 0) = true := decide_eq_true (by omega)
                have dk4 : ((k' : Int) + 1 == 0) = false := by simp; omega
                have dk5 : decide ((k' : Int) + 1 > 0) = true := decide_eq_true (by omega)
                have dk6 : decide (0 < (k' : Int) + 1) = true := decide_eq_true (by omega)
                clear hk0
                have hdi : ((i : Int) == (n : Int)) = true ∨ ((i : Int) == (n : Int)) = false ∧ (i == n) = false := by
                  by_cases h : i = n
                  · left; subst h; simp
                  · right; exact ⟨by simp; omega, by simpa using h⟩
                have h16 : ∀ x : Int, ((k' + 1 : Nat) : Int) - 1 = (k' : Int) := fun _ => by omega
                clear h16
                rcases hdi with di | ⟨di, dj⟩
                all_goals
                  go_upto_region 16 with fail
                  go_wp2_with fail
                  go_loopw [10, 11] (fun v10 _ wr => ∃ d : Nat, v10 = .int .i64 ((i : Int) + 1 + d) ∧ d ≤ n - i ∧ Aside0 (OT w wr most (.slice (some ad) (n + 1 : Nat) cap1) rs (FX s least p n most i (rsCur s least p n most i (k' + 1) d)))) (fun v10 _ _ => n + 1 - (intOf v10).toNat)
                  case atStart => exact ⟨0, by go_num, by omega, H8⟩
                  case round =>
                    obtain ⟨d, rfl, hd, HD⟩ := hrel
                    by_cases hld : d < n - i
                    · have hldi : (i : Int) + 1 + d ≤ n := by omega
                      have HB := Aside0.mk HD.out.b
                      have ht := HC.out.1.below HB.out
                      obtain ⟨ad0, capc, ecv, hcapc, g1⟩ := ht.read (a := i) (by rw [HC.out.2]; omega)
                      rw [HC.out.2] at ecv hcapc
                      cases ecv
                      have g2 := (ht.r i (by rw [HC.out.2]; omega)).at_ (ints_get _ (i := i + 1 + d) (by unfold nrow; simp; omega))
                      rw [show (nrow s least p n i).getD (i + 1 + d) 0 = negO (cO s least p i (d + 1)) by
                        unfold nrow
                        rw [range_map_get _ (by omega)]
                        unfold nvR
                        rw [if_pos (by omega), show i + 1 + d - i = d + 1 by omega]] at g2
                      obtain ⟨ad1, cap, ecv, hcap, e1⟩ := HD.out.read (a := i) (by rw [HRL.out]; omega)
                      rw [HRL.out] at ecv hcap
                      cases ecv
                      obtain ⟨ad2, cap, ecv, hcap, e2⟩ := HD.out.read (a := i + 1 + d) (by rw [HRL.out]; omega)
                      rw [HRL.out] at ecv
                      cases ecv
                      have hrb := HD.out.r i (by rw [HRL.out]; omega)
                      rw [FX_at] at hrb
                      have e3 := hrb.at_ (ints_get _ (show k' + 1 < (rsCur s least p n most i (k' + 1) d).length by rw [rsCur_length]; omega))
                      rw [rsCur_own _ _ _ _ _ (by omega), Nat.add_sub_cancel] at e3
                      have cf := hrb.free (k' + 1)
                      have hrj := HD.out.r (i + 1 + d) (by rw [HRL.out]; omega)
                      rw [FX_far _ _ _ _ _ (by omega)] at hrj
                      have e4 := hrj.at_ (ints_get _ (show k' < (rsRow s least p n most (i + 1 + d)).length by rw [rsRow_length]; omega))
                      rw [rsRow_at _ _ _ _ _ (by omega), show i + 1 + d = i + d + 1 by omega] at e4
                      have e4b := e4
                      rw [show rs.getD (i + d + 1) 0 = rs.getD (i + 1 + d) 0 by rw [show i + d + 1 = i + 1 + d by omega]] at e4b
                      have bx := fun v (h : cO s least p i (d + 1) = some v) => cO_bd HSO.out (by omega) (by omega) h
                      have by_ := fun v (h : restO s least p n k' (i + d + 1) = some v) => restO_bd HSO.out k' (i + d + 1) v (by omega) h
                      have bu := fun v (h : rsMin s least p n i k' d = some v) => rsMin_bd s least p n HSO.out (by omega) h
                      have hx := negO_neg (fun v h => (bx v h).1)
                      have hy := negO_neg (fun v h => (by_ v h).1)
                      have hu := negO_neg bu
                      have HMIN := Aside0.mk (fun v hv => rsMin_some s least p n (i := i) (k := k') (d := d) (v := v) bu hv)
                      obtain ⟨x, hxx⟩ : ∃ z, z = negO (cO s least p i (d + 1)) := ⟨_, rfl⟩
                      obtain ⟨y, hyy⟩ : ∃ z, z = negO (restO s least p n k' (i + d + 1)) := ⟨_, rfl⟩
                      obtain ⟨u, huu⟩ : ∃ z, z = negO (rsMin s least p n i k' d) := ⟨_, rfl⟩
                      obtain ⟨rci, hrci⟩ : ∃ z, z = rs0.getD i 0 := ⟨_, rfl⟩
                      obtain ⟨rj, hrj0⟩ : ∃ z, z = rs.getD (i + 1 + d) 0 := ⟨_, rfl⟩
                      rw [← hxx] at g2 hx
                      rw [← hyy] at e4b hy
                      rw [← huu] at e3 hu HMIN
                      rw [← hrci] at g1 g2
                      rw [← hrj0] at e2 e4b
                      rw [← HRI.out] at e1 e3 cf
                      have HXY := Aside0.mk (And.intro hxx (And.intro hyy (And.intro bx by_)))
                      have HUU := Aside0.mk huu
                      clear bx by_ bu hxx hyy huu ht hrb hrj e4 hrci hrj0 hu
                      have q4 : (0 : Int) ≤ (i : Int) + 1 + d := by omega
                      have q5 : (i : Int) + 1 + d < (n : Int) + 1 := by omega
                      have q7 : i + 1 + d < n + 1 := by omega
                      have q8 : ((i : Int) + 1 + d).toNat = i + 1 + d := by omega
                      have q10 : IntKind.i64.wrap (k' : Int) = k' := IntWalk.i64_in _ (by omega)
                      have q11 : (k' : Int) < (most : Int) + 1 := by omega
                      have q12 : i < n := by omega
                      have q13 : k' < most + 1 := by omega
                      have q14 : (i : Int) < n := by omega
                      by_cases hx1 : x = -1
                      · have hno : addO (cO s least p i (d + 1)) (restO s least p n k' (i + d + 1)) = none := by rw [hx.1 hx1]; rfl
                        have HNO : Aside0 (rsCur s least p n most i (k' + 1) d = rsCur s least p n most i (k' + 1) (d + 1)) := ⟨rsCur_same s least p n most (by rw [Nat.add_sub_cancel, rsMin_same s least p n hno])⟩
                        have dx : (x == -1) = true := by simpa using hx1
                        clear hno hx hy hx1
                        go_wp2_with fail
                        go_roundw
                        case rel => exact ⟨d + 1, by go_num, by omega, ⟨by rw [← HNO.out]; exact HD.out⟩⟩
                        case measure => simp [intOf]; omega
                      · have dx : (x == -1) = false := by simpa using hx1
                        by_cases hy1 : y = -1
                        · have hno : addO (cO s least p i (d + 1)) (restO s least p n k' (i + d + 1)) = none := by
                            rw [hy.1 hy1]; cases cO s least p i (d + 1) <;> rfl
                          have HNO : Aside0 (rsCur s least p n most i (k' + 1) d = rsCur s least p n most i (k' + 1) (d + 1)) := ⟨rsCur_same s least p n most (by rw [Nat.add_sub_cancel, rsMin_same s least p n hno])⟩
                          have dy : (y == -1) = true := by simpa using hy1
                          clear hno hx hy hx1 hy1
                          go_wp2_with fail
                          go_roundw
                          case rel => exact ⟨d + 1, by go_num, by omega, ⟨by rw [← HNO.out]; exact HD.out⟩⟩
                          case measure => simp [intOf]; omega
                        · have dy : (y == -1) = false := by simpa using hy1
                          have hnew : addO (cO s least p i (d + 1)) (restO s least p n k' (i + d + 1)) = some (x + y) ∧ (0 ≤ x ∧ x ≤ 1374252095766528) ∧ 0 ≤ y ∧ y ≤ 1374252095766528 := by
                            obtain ⟨a1, a2, a4, a5⟩ := HXY.out
                            cases e1 : cO s least p i (d + 1) with
                            | none => exact absurd (hx.2 e1) hx1
                            | some x' =>
                              cases e2 : restO s least p n k' (i + d + 1) with
                              | none => exact absurd (hy.2 e2) hy1
                              | some y' =>
                                have b1 := a4 x' e1
                                have b2 := a5 y' e2
                                rw [e1] at a1
                                rw [e2] at a2
                                have f1 : x = x' := a1
                                have f2 : y = y' := a2
                                exact ⟨by rw [f1, f2]; rfl, by omega, by omega⟩
                          obtain ⟨hnew, ⟨hx3, hx4⟩, hy3, hy4⟩ := hnew
                          have HNEW := Aside0.mk (HMIN.out _ hnew)
                          clear hx hy hx1 hy1 hnew HMIN
                          have q9 : IntKind.i64.wrap (x + y) = x + y := IntWalk.i64_in _ (by omega)
                          go_upto_region 20 with fail
                          go_quiet (fail)
                          have HDQ := Aside0.mk (HD.out.below (bdN wr nq))
                          have HRR := Aside0.mk (show Blk (wr.drewN nq) (rs.getD i 0) (ints (rsCur s least p n most i (k' + 1) d)) 3 from by have := HDQ.out.r i (by rw [HRL.out]; omega); rwa [FX_at] at this)
                          have HSX := Aside0.mk (HDQ.out.setX (i := i) (by rw [HRL.out]; omega) (k' + 1) (x + y))
                          rw [← HRI.out] at HSX HRR
                          obtain ⟨ad1, cap, ecv, hcap, e1⟩ := HDQ.out.read (a := i) (by rw [HRL.out]; omega)
                          rw [HRL.out] at ecv
                          cases ecv
                          rw [← HRI.out] at e1
                          have e3 := HRR.out.at_ (ints_get _ (show k' + 1 < (rsCur s least p n most i (k' + 1) d).length by rw [rsCur_length]; omega))
                          rw [rsCur_own _ _ _ _ _ (by omega), Nat.add_sub_cancel, ← HUU.out] at e3
                          have cf := HRR.out.free (k' + 1)
                          clear g1 g2 e2 e4b
                          generalize wr.drewN nq = wq at HDQ HSX HRR e1 e3 cf ⊢
                          by_cases hu1 : u = -1
                          · have du : (u == -1) = true := by simpa using hu1
                            have HNX : Aside0 ((rsCur s least p n most i (k' + 1) d).set (k' + 1) (x + y) = rsCur s least p n most i (k' + 1) (d + 1)) := ⟨by
                              have h2 := HNEW.out
                              rw [if_pos (.inl hu1)] at h2
                              have h3 := rsCur_set s least p n most i (k := k' + 1) (d := d) (by omega)
                              rwa [Nat.add_sub_cancel, h2] at h3⟩
                            clear hu1 HNEW
                            go_wp2_with fail
                            go_roundw
                            case rel => exact ⟨d + 1, by go_num, by omega, ⟨by rw [← HNX.out]; exact HSX.out⟩⟩
                            case measure => simp [intOf]; omega
                          · have du : (u == -1) = false := by simpa using hu1
                            by_cases hu2 : x + y < u
                            · have dc : decide (x + y < u) = true := decide_eq_true hu2
                              have HNX : Aside0 ((rsCur s least p n most i (k' + 1) d).set (k' + 1) (x + y) = rsCur s least p n most i (k' + 1) (d + 1)) := ⟨by
                                have h2 := HNEW.out
                                rw [if_pos (.inr hu2)] at h2
                                have h3 := rsCur_set s least p n most i (k := k' + 1) (d := d) (by omega)
                                rwa [Nat.add_sub_cancel, h2] at h3⟩
                              clear hu1 hu2 HNEW
                              go_wp2_with fail
                              go_roundw
                              case rel => exact ⟨d + 1, by go_num, by omega, ⟨by rw [← HNX.out]; exact HSX.out⟩⟩
                              case measure => simp [intOf]; omega
                            · have dc : decide (x + y < u) = false := decide_eq_false hu2
                              have HNX : Aside0 (rsCur s least p n most i (k' + 1) d = rsCur s least p n most i (k' + 1) (d + 1)) := ⟨by
                                have h2 := HNEW.out
                                rw [if_neg (by omega), HUU.out] at h2
                                exact rsCur_same s least p n most (by rw [Nat.add_sub_cancel]; exact h2)⟩
                              clear hu1 hu2 HNEW
                              go_wp2_with fail
                              go_roundw
                              case rel => exact ⟨d + 1, by go_num, by omega, ⟨by rw [← HNX.out]; exact HDQ.out⟩⟩
                              case measure => simp [intOf]; omega
                    · have hldi : ¬ (i : Int) + 1 + d ≤ n := by omega
                      go_wp2_with fail
                      go_roundw
                      case rel => exact ⟨k' + 2, by go_num, by omega, ⟨by rw [← rsCur_last, show n - i = d by omega]; exact HD.out⟩⟩
                      case measure => simp [intOf]; omega
            · have hlti : ¬ (k : Int) ≤ most := by omega
              obtain rfl : k = most + 1 := by omega
              go_wp2_with fail
              go_roundw
              case rel => exact ⟨i, by go_num, by omega, by rw [← FX_done]; exact HK⟩
              case measure => simp [intOf]
end Go.Proofs.Ythkfahkkcjagdaa
namespace Go.Proofs.Ythkfahkkcjagdaa
open Go.RowKit Go.Proofs.YthkfahkkcjagdaaW.PrintWords Go.Proofs.YthkfahkkcjagdaaW.PrintMore Go.Proofs.YthkfahkkcjagdaaW.PrintLast
set_option linter.unusedSimpArgs false

theorem negE_negO (o : Option Int) : negE o = negO o := by cases o <;> rfl
def RCurvePost (w : World) (fs : List Fl) (l least p : Int) (e : Ending) (w' : World) : Prop :=
  Below w.heap.size w w' ∧ if errE fs l least p = 0 then ∃ v : Value, e = .returned (.tuple #[v, .int .i64 0]) ∧ (Kd.int .i64).R 3 w' w.heap.size (fun _ => True) v (curveL (sF fs (ordF fs)) least p fs.length l.toNat)
  else e = .returned (.tuple #[.slice none 0 0, .int .i64 (errE fs l least p)])
theorem curve_take {s : Nat → Fl} {least p : Int} {n most k : Nat} (hk : k < most) : (curveL s least p n most).take (k + 1) = (curveL s least p n most).take k ++ [negO (restO s least p n (k + 1) 0)] := by
  rw [List.take_add_one, List.getElem?_eq_getElem (by rw [curveL_length]; exact hk)]
  unfold curveL
  simp [negE_negO]
theorem info3k : (Try.prog.info? 3).map (fun i => (i.zero, i.size, i.bytes)) = some (some (.int .i64 0), (Kd.int .i64).sz, 8) := by kernel_rfl
set_option maxHeartbeats 8000000 in
set_option maxRecDepth 100000 in
theorem rcurve_any (w : World) (A : Option Addr) (n cf : Nat) (fs : List Fl) (hn0 : fs.length = n) (h : kF.C w A n fs) (hk : KOK fs) (l least p : Int) :
    Calls Try.prog 27 #[.slice A n cf, .agg #[.int .i64 l, .int .i64 least, .int .i64 p]] w (RCurvePost w fs l least p) := by
  have b1 := below_alloc (Below.refl w.heap.size w) (.cells #[.int .i64 l, .int .i64 least, .int .i64 p] 24)
  have q1 := Blk.new w [.int .i64 l, .int .i64 least, .int .i64 p] 24
  have s0 := q1.at_ (i := 0) rfl
  have s1 := q1.at_ (i := 1) rfl
  have s2 := q1.at_ (i := 2) rfl
  have hl := errors_any _ A _ cf fs hn0 (Kd.C_below h b1) l least p
  have HB := Aside0.mk (And.intro b1 (And.intro q1 (Kd.C_below h b1)))
  have HKK := Aside0.mk hk
  have HL := Aside0.mk hl
  by_cases hE : errE fs l least p = 0
  · have hsp := errE_spec hE
    have hn := (errE_all hE).1
    rw [hn0] at hn
    obtain ⟨most, rfl⟩ : ∃ m : Nat, l = m := ⟨l.toNat, by omega⟩
    have hm1 : 1 ≤ most := by omega
    have hm2 : most ≤ 16 := by omega
    have HPOST : Aside0 (∀ v w', Below w.heap.size w w' → (Kd.int .i64).R 3 w' w.heap.size (fun _ => True) v (curveL (sF fs (ordF fs)) least p n most) → RCurvePost w fs most least p (.returned (.tuple #[v, .int .i64 0])) w') := ⟨fun v w' h1 h2 => by
      unfold RCurvePost
      rw [if_pos hE, Int.toNat_natCast, hn0]
      exact ⟨h1, v, rfl, h2⟩⟩
    have HSO := Aside0.mk (ordF_SOK (errE_all hE).2)
    rw [hn0] at HSO
    have HE := Aside0.mk hE
    have HCS := Aside0.mk (fun (W : World) (hW : Below (w.alloc (.cells #[.int .i64 most, .int .i64 least, .int .i64 p] 24)).heap.size (w.alloc (.cells #[.int .i64 most, .int .i64 least, .int .i64 p] 24)) W) => costs_any W A n cf fs hn0 (Kd.C_below HB.out.2.2 hW) hk most least p (errE_all hE).2 hn hsp.2.1 hsp.2.2)
    obtain ⟨s, hs⟩ : ∃ z, z = sF fs (ordF fs) := ⟨_, rfl⟩
    rw [← hs] at HSO HPOST HCS
    clear h hk b1 q1 hl hE hs hsp
    go_enter Try.func27, Try.ntmps27
    go_upto_region 4 with ((with_reducible refine HL.out.mono ?_); rintro e5 w5 ⟨rfl, hb5⟩; rw [HE.out]; have H5 := Aside0.mk (And.intro (below_step HB.out.1 hb5) (And.intro (HB.out.2.1.below hb5) hb5)); clear hb5)
    clear s0 s1 s2
    have s0 := H5.out.2.1.at_ (i := 0) rfl
    have s1 := H5.out.2.1.at_ (i := 1) rfl
    have s2 := H5.out.2.1.at_ (i := 2) rfl
    have HS0 := Aside0.mk (fun (W : World) (hW : Below w5.heap.size w5 W) => (show W.cell? ⟨w.heap.size, 0, none⟩ = some (.int .i64 most) ∧ W.cell? ⟨w.heap.size, 1, none⟩ = some (.int .i64 least) ∧ W.cell? ⟨w.heap.size, 2, none⟩ = some (.int .i64 p) from
      ⟨(H5.out.2.1.below hW).at_ (i := 0) rfl, (H5.out.2.1.below hW).at_ (i := 1) rfl, (H5.out.2.1.below hW).at_ (i := 2) rfl⟩))
    -- REGION 4
    clear s0 s1 s2
    refine start_ (n := 7) (S := (fun W => W.cell? ⟨w.heap.size, 0, none⟩ = some (.int .i64 most) ∧ W.cell? ⟨w.heap.size, 1, none⟩ = some (.int .i64 least) ∧ W.cell? ⟨w.heap.size, 2, none⟩ = some (.int .i64 p))) (ds := []) #[false, false, false, false, false, false, false] (by kernel_rfl) rfl rfl (HS0.out _ (below_drew (Below.refl _ _))) (fun hHeld => ?_)
    refine pure_ (i := 0) (N := some 16) (v := ?_) (a' := ?_) #[true, false, false, false, false, false, false] rfl rfl (by kernel_rfl) (fun _ _ _ h => h) (Or.inl ⟨by rfl, ?_⟩) ?_ ?_
    rotate_left
    · intro w'
      go_simp
      with_reducible rfl
    rotate_left
    · simp only [Act.put, List.setIfInBounds_toArray, List.set_cons_zero, List.set_cons_succ, i64_w, i32_w]
      rfl
    refine take_ (i := 1) (N := some 17) (v := ?_) (a' := ?_) #[true, true, false, false, false, false, false] rfl rfl (by kernel_rfl) (fun _ _ _ h => h) (Or.inl ⟨by rfl, ?_⟩) hHeld ?_ ?_
    rotate_left
    · rintro w' ⟨s0, s1, s2⟩
      go_simp
      with_reducible rfl
    rotate_left
    · simp only [Act.put, List.setIfInBounds_toArray, List.set_cons_zero, List.set_cons_succ, i64_w, i32_w]
      rfl
    refine pure_ (i := 3) (N := some 19) (v := ?_) (a' := ?_) #[true, true, false, true, false, false, false] rfl rfl (by kernel_rfl) (fun _ _ _ h => h) (Or.inl ⟨by rfl, ?_⟩) ?_ ?_
    rotate_left
    · intro w'
      go_simp
      with_reducible rfl
    rotate_left
    · simp only [Act.put, List.setIfInBounds_toArray, List.set_cons_zero, List.set_cons_succ, i64_w, i32_w]
      rfl
    refine take_ (i := 4) (N := some 20) (v := ?_) (a' := ?_) #[true, true, false, true, true, false, false] rfl rfl (by kernel_rfl) (fun _ _ _ h => h) (Or.inl ⟨by rfl, ?_⟩) hHeld ?_ ?_
    rotate_left
    · rintro w' ⟨s0, s1, s2⟩
      go_simp
      with_reducible rfl
    rotate_left
    · simp only [Act.put, List.setIfInBounds_toArray, List.set_cons_zero, List.set_cons_succ, i64_w, i32_w]
      rfl
    refine one_ (i := 2) (N := some 18) #[true, true, true, true, true, false, false] rfl rfl (by kernel_rfl) (by decide) (fun K hK => ?_)
    refine goes_ Try.func65 (by kernel_rfl) rfl #[.slice A n cf, .agg #[.int .i64 most, .int .i64 least, .int .i64 p]] (by rfl) rfl rfl (by (try simp only [List.map_toArray, List.map_cons, List.map_nil]); first | done | rfl) ?_
    with_reducible refine (HCS.out _ (below_step H5.out.2.2 (below_drew (Below.refl _ _)))).mono ?_
    rintro e6 w6 h6
    obtain ⟨v6, rs0, wb0, rfl, hc6, hl6, hb6⟩ := h6
    refine ⟨_, rfl, ?_⟩
    have HB6 := Aside0.mk (below_step (below_drew (Below.refl w5.heap.size w5)) hb6)
    have HC6 := Aside0.mk (And.intro hc6 hl6)
    clear hc6 hl6 hb6
    refine hK.out _ _ (HS0.out _ HB6.out) (fun hHeld => ?_)
    clear hK K
    refine norm_ (a' := ?_) ?_ ?_
    rotate_left
    · show Act.put _ (some 18) _ = _
      simp only [Act.put, List.setIfInBounds_toArray, List.set_cons_zero, List.set_cons_succ, i64_w, i32_w]
      rfl
    refine one_ (i := 5) (N := some 21) #[true, true, true, true, true, true, false] rfl rfl (by kernel_rfl) (by decide) (fun K hK => ?_)
    refine goes_ Try.func66 (by kernel_rfl) rfl #[v6, .int .i64 most] (by rfl) rfl rfl (by (try simp only [List.map_toArray, List.map_cons, List.map_nil]); first | done | rfl) ?_
    with_reducible refine (rests_any w6 wb0 v6 rs0 n most s least p HC6.out.1 HC6.out.2 hn hm2 HSO.out).mono ?_
    rintro e7 w7 h7
    obtain ⟨v7, rs, rfl, ho7, hl7⟩ := h7
    refine ⟨_, rfl, ?_⟩
    have HO7 := Aside0.mk (And.intro ho7 hl7)
    have HB7 := Aside0.mk (below_step HB6.out ho7.b)
    clear ho7 hl7
    refine hK.out _ _ (HS0.out _ HB7.out) (fun hHeld => ?_)
    clear hK K
    refine norm_ (a' := ?_) ?_ ?_
    rotate_left
    · show Act.put _ (some 21) _ = _
      simp only [Act.put, List.setIfInBounds_toArray, List.set_cons_zero, List.set_cons_succ, i64_w, i32_w]
      rfl
    refine pure_ (i := 6) (N := some 7) (v := ?_) (a' := ?_) #[true, true, true, true, true, true, true] rfl rfl (by kernel_rfl) (fun _ _ _ h => h) (Or.inl ⟨by rfl, ?_⟩) ?_ ?_
    rotate_left
    · intro w'
      go_simp
      with_reducible rfl
    rotate_left
    · simp only [Act.put, List.setIfInBounds_toArray, List.set_cons_zero, List.set_cons_succ, i64_w, i32_w]
      rfl
    refine done_ (by kernel_rfl) ?_
    obtain ⟨A7, cap7, ev7, hc7, _⟩ := Kd.R_reads HO7.out.1.o
    rw [HO7.out.2] at ev7 hc7
    subst ev7
    go_upto_region 5 with fail
    clear hHeld
    go_wp2_with fail
    go_loopw [8, 9] (fun v8 v9 wr => ∃ k : Nat, v9 = .int .i64 ((k : Int) + 1) ∧ k ≤ most ∧ Aside0 ((Kd.int .i64).R 3 wr w7.heap.size (fun _ => True) v8 ((curveL s least p n most).take k) ∧ Below w7.heap.size w7 wr)) (fun _ v9 _ => most + 1 - (intOf v9).toNat)
    case atStart => exact ⟨0, rfl, by omega, ⟨Kd.R_nil _ _ _ _ _, Below.refl _ _⟩⟩
    case round =>
      obtain ⟨k, rfl, hk, HI⟩ := hrel
      obtain ⟨s0, s1, s2⟩ := HS0.out _ (below_step HB7.out HI.out.2)
      by_cases hlt : k < most
      · have hlti : (k : Int) + 1 ≤ most := by omega
        have hot := HO7.out.1.below HI.out.2
        obtain ⟨ad, cap, ecv, hcap, g1⟩ := hot.read (a := 0) (by rw [HO7.out.2]; omega)
        rw [Addr.add_zero'] at g1
        rw [HO7.out.2] at ecv hcap
        cases ecv
        have g2 := (hot.r 0 (by rw [HO7.out.2]; omega)).at_ (ints_get _ (show k + 1 < (rsRow s least p n most 0).length by rw [rsRow_length]; omega))
        rw [rsRow_at _ _ _ _ _ (by omega)] at g2
        have htk := curve_take (s := s) (least := least) (p := p) (n := n) hlt
        obtain ⟨x, hx⟩ : ∃ z, z = negO (restO s least p n (k + 1) 0) := ⟨_, rfl⟩
        obtain ⟨r0, hr0⟩ : ∃ z, z = rs.getD 0 0 := ⟨_, rfl⟩
        rw [← hx] at g2 htk
        rw [← hr0] at g1 g2
        have HTK := Aside0.mk htk
        have htl : ((curveL s least p n most).take k).length ≤ 16 := by rw [List.length_take]; omega
        have HTL := Aside0.mk htl
        clear htk hx hr0 hot htl s1 s2
        have q1 : (0 : Int) ≤ (k : Int) + 1 := by omega
        have q2 : (k : Int) + 1 < (most : Int) + 1 := by omega
        have q3 : k + 1 < most + 1 := by omega
        have q4 : ((k : Int) + 1).toNat = k + 1 := by omega
        have q5 : (0 : Int) < (n : Int) + 1 := by omega
        have q6 : 0 < n + 1 := by omega
        go_upto_region 8 with ((with_reducible refine gate_builtin (b := .append) (xs := #[.tmp 28, .tmp 35]) rfl ?_); at_builtin; refine Kd.R_append (Kd.int .i64) (w0 := w7) w7.heap.size rfl (.tmp 28) (.tmp 35) 35 3 (.int .i64 0) 8 rfl Try.underlying35 info3k rfl (by decide) (by decide) u8 ((curveL s least p n most).take k) x [.int .i64 x] (fun _ => True) (fun _ => False) rfl rfl ?aP (fun _ hk => hk.elim) ?aF ?aO ?aB ?aS ?aL ?_; (case aP => exact rfl); (case aB => exact HI.out.2); (case aF => exact (fun _ _ => trivial)); (case aO => exact HI.out.1); (case aS => exact HI.out.2.size); (case aL => have := HTL.out; omega); intro v8 w8 ho hb hg hat; rw [← HTK.out] at ho; have H8 := Aside0.mk (And.intro ho hb); clear ho hb hg hat)
        go_wp2_with fail
        go_roundw
        case rel => exact ⟨k + 1, by go_num, by omega, H8⟩
        case measure => simp [intOf]; omega
      · have hlti : ¬ (k : Int) + 1 ≤ most := by omega
        obtain rfl : k = most := by omega
        go_wp2_with fail
        refine bodyPost_ret (v := .tuple #[u8, .int .i64 0]) (by simp [results, Try.results27, go_sem]) rfl ?_
        refine HPOST.out _ _ (below_step H5.out.1 (below_step HB7.out HI.out.2)) ?_
        have := HI.out.1
        rw [List.take_of_length_le (by rw [curveL_length]; omega)] at this
        exact Kd.R_lower this (Nat.le_trans H5.out.1.size HB7.out.size)
  · obtain ⟨e0, he0⟩ : ∃ z, z = errE fs l least p := ⟨_, rfl⟩
    have hz : (e0 != 0) = true := by rw [he0]; simpa using hE
    have HE0 := Aside0.mk he0
    have HE := Aside0.mk hE
    clear h hk b1 q1 hl hE he0
    go_enter Try.func27, Try.ntmps27
    go_wp2_with ((with_reducible refine HL.out.mono ?_); rintro e5 w5 ⟨rfl, hb5⟩; rw [← HE0.out]; have HB5 := Aside0.mk (below_step HB.out.1 hb5); clear hb5)
    refine bodyPost_ret (v := .tuple #[.slice none 0 0, .int .i64 e0]) (by simp [results, Try.results27, go_sem]) rfl ?_
    unfold RCurvePost
    rw [if_neg HE.out, HE0.out]
    exact ⟨HB5.out, rfl⟩
end Go.Proofs.Ythkfahkkcjagdaa

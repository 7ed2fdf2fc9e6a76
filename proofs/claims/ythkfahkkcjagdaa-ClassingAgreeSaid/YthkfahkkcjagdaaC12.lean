/- The table of the least costs: its memory and its walk. -/
import Derived.Test.YthkfahkkcjagdaaC11
import Derived.Deep.CutBlock
import Derived.StillTailTactics
namespace Go.Proofs.Ythkfahkkcjagdaa
open Go.RowKit Go.Proofs.YthkfahkkcjagdaaW.PrintWords Go.Proofs.YthkfahkkcjagdaaW.PrintMore Go.Proofs.YthkfahkkcjagdaaW.PrintLast
attribute [local go_sem] max2_int min2_int

theorem fill_set2 (n j : Nat) (v : Int) (h : j < n) : (List.replicate j v ++ List.replicate (n - j) 0).set j v = List.replicate (j + 1) v ++ List.replicate (n - (j + 1)) 0 := by
  rw [List.set_append_right _ _ (by simp), List.length_replicate, Nat.sub_self, show n - j = (n - (j + 1)) + 1 by omega, List.replicate_succ, List.set_cons_zero, List.replicate_succ', List.append_assoc]
  rfl
/-- The rows that are done: their blocks, and the row of their slices. -/
structure LS (w wr : World) (bo m n : Nat) (row : Nat → List Int) (rs : List Nat) : Prop where
  b : Below w.heap.size w wr
  o : Blk wr bo (sls (n + 1) rs ++ List.replicate (m - rs.length) (.slice none 0 0)) 35
  rr : ∀ a, a < rs.length → Blk wr (rs.getD a 0) (ints (row a)) 3
  rb : ∀ a, a < rs.length → w.heap.size ≤ rs.getD a 0
  ob : w.heap.size ≤ bo
/-- And one row under way. -/
structure LR (w wr : World) (bo m n : Nat) (row : Nat → List Int) (rs : List Nat) (r : Nat) (cur : List Int) : Prop where
  b : Below w.heap.size w wr
  o : Blk wr bo (sls (n + 1) (rs ++ [r]) ++ List.replicate (m - (rs ++ [r]).length) (.slice none 0 0)) 35
  rr : ∀ a, a < rs.length → Blk wr (rs.getD a 0) (ints (row a)) 3
  rb : ∀ a, a < rs.length → w.heap.size ≤ rs.getD a 0
  ob : w.heap.size ≤ bo
  c : Blk wr r (ints cur) 3
  ne : ∀ a, a < rs.length → rs.getD a 0 ≠ r
  cb : w.heap.size ≤ r
section
variable {w wr : World} {bo m n r : Nat} {row : Nat → List Int} {rs : List Nat} {cur : List Int}
theorem LR.set (h : LR w wr bo m n row rs r cur) (j : Nat) (v : Int) : LR w (wr.setCell ⟨r, j, none⟩ (.int .i64 v)) bo m n row rs r (cur.set j v) := by
  have k : Kp (fun k => k = r) wr (wr.setCell ⟨r, j, none⟩ (.int .i64 v)) := (Kp.refl (fun k => k = r) wr).setCell (p := ⟨r, j, none⟩) (fun _ => rfl) _
  refine { h with b := h.b.setCell h.cb _, o := h.o.kp k (h.o.ne_of_type h.c (by decide)), rr := fun a ha => (h.rr a ha).kp k (h.ne a ha), c := ?_ }
  have := h.c.set j (.int .i64 v)
  rwa [ints_set] at this
theorem LR.drew (h : LR w wr bo m n row rs r cur) : LR w wr.drew bo m n row rs r cur :=
  { h with b := below_drew h.b, o := h.o.drew, rr := fun a ha => (h.rr a ha).drew, c := h.c.drew }
theorem LR.done (h : LR w wr bo m n row rs r cur) (hc : cur = row rs.length) : LS w wr bo m n row (rs ++ [r]) := by
  refine ⟨h.b, h.o, fun a ha => ?_, fun a ha => ?_, h.ob⟩
  · rw [List.length_append, List.length_singleton] at ha
    rcases (show a < rs.length ∨ a = rs.length by omega) with h3 | h3
    · rw [getD_append_lt h3]; exact h.rr a h3
    · rw [getD_append_eq h3, h3, ← hc]; exact h.c
  · rw [List.length_append, List.length_singleton] at ha
    rcases (show a < rs.length ∨ a = rs.length by omega) with h3 | h3
    · rw [getD_append_lt h3]; exact h.rb a h3
    · rw [getD_append_eq h3]; exact h.cb
/-- A row is made and hung in. -/
theorem LS.hang (h : LS w wr bo m n row rs) (hm : rs.length < m) :
    LR w ((wr.alloc (.cells (ints (List.replicate (n + 1) 0)).toArray 3)).setCell ⟨bo, rs.length, none⟩ (.slice (some ⟨wr.heap.size, 0, none⟩) (n + 1) (n + 1))) bo m n row rs wr.heap.size (List.replicate (n + 1) 0) := by
  have hb := below_alloc (Below.refl wr.heap.size wr) (.cells (ints (List.replicate (n + 1) 0)).toArray 3)
  have ho := h.o.below hb
  have hc := Blk.new wr (ints (List.replicate (n + 1) 0)) 3
  have k : Kp (fun k => k = bo) (wr.alloc (.cells (ints (List.replicate (n + 1) 0)).toArray 3)) ((wr.alloc (.cells (ints (List.replicate (n + 1) 0)).toArray 3)).setCell ⟨bo, rs.length, none⟩ (.slice (some ⟨wr.heap.size, 0, none⟩) (n + 1) (n + 1))) :=
    (Kp.refl (fun k => k = bo) _).setCell (p := ⟨bo, rs.length, none⟩) (fun _ => rfl) _
  refine ⟨(below_step h.b hb).setCell h.ob _, ?_, fun a ha => ((h.rr a ha).below hb).kp k (((h.rr a ha).below hb).ne_of_type ho (by decide)), h.rb, h.ob, hc.kp k (hc.ne_of_type ho (by decide)), fun a ha => ?_, h.b.size⟩
  · have := ho.set rs.length (.slice (some ⟨wr.heap.size, 0, none⟩) (n + 1) (n + 1))
    have e : (sls (n + 1) rs ++ List.replicate (m - rs.length) (Value.slice none 0 0)).set rs.length (.slice (some ⟨wr.heap.size, 0, none⟩) (n + 1) (n + 1)) = sls (n + 1) (rs ++ [wr.heap.size]) ++ List.replicate (m - (rs ++ [wr.heap.size]).length) (.slice none 0 0) := by
      rw [List.set_append_right _ _ (by rw [sls_length]; omega), sls_length, Nat.sub_self, show m - rs.length = (m - (rs ++ [wr.heap.size]).length) + 1 by simp; omega, List.replicate_succ, List.set_cons_zero]
      simp [sls]
    rw [e] at this
    exact this
  · have := (h.rr a ha).lt; omega
theorem LR.row_at (h : LR w wr bo m n row rs r cur) {a : Nat} (ha : a < rs.length) : wr.cell? ⟨bo, a, none⟩ = some (.slice (some ⟨rs.getD a 0, 0, none⟩) (n + 1) (n + 1)) := by
  refine h.o.at_ ?_
  rw [List.getElem?_append_left (by rw [sls_length]; simp; omega), sls_get _ _ (by simp; omega), getD_append_lt ha]
theorem LR.own (h : LR w wr bo m n row rs r cur) : wr.cell? ⟨bo, rs.length, none⟩ = some (.slice (some ⟨r, 0, none⟩) (n + 1) (n + 1)) := by
  refine h.o.at_ ?_
  rw [List.getElem?_append_left (by rw [sls_length]; simp), sls_get _ _ (by simp), getD_append_eq rfl]
theorem LS.row_at (h : LS w wr bo m n row rs) {a : Nat} (ha : a < rs.length) : wr.cell? ⟨bo, a, none⟩ = some (.slice (some ⟨rs.getD a 0, 0, none⟩) (n + 1) (n + 1)) := by
  refine h.o.at_ ?_
  rw [List.getElem?_append_left (by rw [sls_length]; exact ha), sls_get _ _ ha]
theorem LS.below {w2 : World} (h : LS w wr bo m n row rs) (k : Below wr.heap.size wr w2) : LS w w2 bo m n row rs :=
  { h with b := below_step h.b k, o := h.o.below k, rr := fun a ha => (h.rr a ha).below k }
end
theorem made_nils (n : Nat) : madeCells #[.slice none 0 0] n = (List.replicate n (Value.slice none 0 0)).toArray := by
  apply Array.toList_inj.1
  rw [toList_madeCells_one]
theorem info35l : (Try.prog.info? 35).map (fun i => (i.zero, i.size, i.bytes)) = some (some (.slice none 0 0), 1, 24) := by kernel_rfl
theorem info101 : (Try.prog.info? 101).map (fun i => (i.zero, i.size, i.bytes)) = some (some (.slice none 0 0), 1, 24) := by kernel_rfl
/-- What the table of the least costs is. -/
def LeastPost (w : World) (s : Nat → Fl) (least p : Int) (n most : Nat) (e : Ending) (w' : World) : Prop :=
  ∃ (bo : Nat) (rs : List Nat), e = .returned (.slice (some ⟨bo, 0, none⟩) (most + 1) (most + 1)) ∧ LS w w' bo (most + 1) n (lrow s least p n) rs ∧ rs.length = most + 1

set_option maxHeartbeats 8000000 in
set_option maxRecDepth 100000 in
theorem least_any (w : World) (N bt o : Nat) (A : Option Addr) (cf : Nat) (fs : List Fl) (ord : List Int) (least p : Int) (cv ev : Value) (r1s r2s : List Nat) (h : TT w N bt o A cf fs ord least p cv ev r1s r2s) (hl : r1s.length = fs.length) (hn : fs.length ≤ 128) (hs : SOK (sF fs ord) fs.length) (most : Nat) (hm : most ≤ 16) :
    Calls Try.prog 62 #[.pointer (some ⟨bt, 0, none⟩), .int .i64 most] w (LeastPost w (sF fs ord) least p fs.length most) := by
  have c1 := h.tb.t.at_ (i := 1) rfl
  have HT := Aside0.mk (And.intro h hl); clear h hl
  have HS := Aside0.mk hs; clear hs
  obtain ⟨n, hn0⟩ : ∃ z, z = fs.length := ⟨_, rfl⟩
  have mk1 := print_make (P := Try.prog) 35 3 .i64 8 Try.underlying35 info3 (by decide) (n + 1) (by omega)
  rw [show ((n + 1 : Nat) : Int) = (n : Int) + 1 by omega] at mk1
  have mk2 := print_make_of (P := Try.prog) 101 35 (.slice none 0 0) 24 Try.underlying101 info35l rfl (by decide) (most + 1) (by omega)
  rw [show ((most + 1 : Nat) : Int) = (most : Int) + 1 by omega] at mk2
  rw [← hn0] at c1 hn ⊢
  have HN := Aside0.mk hn0; clear hn0
  go_enter Try.func62, Try.ntmps62
  go_upto_region 2 with fail
  go_wp2_with fail
  rw [made_nils]
  have h0 : LS w (w.alloc (.cells (List.replicate (most + 1) (Value.slice none 0 0)).toArray 35)) w.heap.size (most + 1) n (lrow (sF fs ord) least p n) [] :=
    ⟨below_alloc (Below.refl _ _) _, Blk.new w (List.replicate (most + 1) (Value.slice none 0 0)) 35, fun a ha => by simp at ha, fun a ha => by simp at ha, Nat.le_refl _⟩
  generalize (w.alloc (.cells (List.replicate (most + 1) (Value.slice none 0 0)).toArray 35)) = w2 at h0 ⊢
  obtain ⟨bo, hbo⟩ : ∃ z, z = w.heap.size := ⟨_, rfl⟩
  rw [← hbo] at h0 ⊢
  clear hbo c1 mk2
  have H0 := Aside0.mk h0; clear h0
  go_loopw [7, 21] (fun _ v wr => ∃ (k : Nat) (rs : List Nat), v = .int .i64 k ∧ k ≤ most + 1 ∧ Aside0 (rs.length = k ∧ LS w wr bo (most + 1) n (lrow (sF fs ord) least p n) rs)) (fun _ v _ => most + 1 - (intOf v).toNat)
  case atStart => exact ⟨0, [], rfl, by omega, ⟨rfl, H0.out⟩⟩
  case round =>
    obtain ⟨k, rs, rfl, hk, HK⟩ := hrel
    clear H0
    by_cases hlt : k < most + 1
    · have hlti : (k : Int) < (most : Int) + 1 := by omega
      have cb : ∀ X, (wr.alloc X).cell? ⟨bo, k, none⟩ = some (.slice none 0 0) := fun X => (HK.out.2.o.alloc X).at_ (by have := HK.out.1; rw [List.getElem?_append_right (by rw [sls_length]; omega), List.getElem?_replicate, if_pos (by rw [sls_length]; omega)])
      have fb : ∀ X i, (wr.alloc X).frozen? ⟨bo, i, none⟩ = false := fun X => (HK.out.2.o.alloc X).free
      go_upto_region 7 with fail
      clear cb fb
      rw [made_ints]
      have h5 := HK.out.2.hang (by rw [HK.out.1]; exact hlt)
      rw [HK.out.1] at h5
      generalize ((wr.alloc (.cells (ints (List.replicate (n + 1) 0)).toArray 3)).setCell ⟨bo, k, none⟩ (.slice (some ⟨wr.heap.size, 0, none⟩) (n + 1) (n + 1))) = w5 at h5 ⊢
      obtain ⟨r, hr⟩ : ∃ z, z = wr.heap.size := ⟨_, rfl⟩
      rw [← hr] at h5
      have c5 := h5.own
      rw [HK.out.1] at c5
      have H5 := Aside0.mk h5; clear h5
      have HKL := Aside0.mk HK.out.1
      clear hr HK
      go_wp2_with fail
      go_loopw [8, 35] (fun _ v wr => ∃ j : Nat, v = .int .i64 j ∧ j ≤ n + 1 ∧ Aside0 (LR w wr bo (most + 1) n (lrow (sF fs ord) least p n) rs r (List.replicate j 4611686018427387904 ++ List.replicate (n + 1 - j) 0))) (fun _ v _ => n + 1 - (intOf v).toNat)
      case atStart => exact ⟨0, rfl, by omega, ⟨by simpa using H5.out⟩⟩
      case round =>
        obtain ⟨j, rfl, hj, HJ⟩ := hrel
        have c6 := HJ.out.own
        rw [HKL.out] at c6
        by_cases hlj : j < n + 1
        · have hlji : (j : Int) < (n : Int) + 1 := by omega
          have hjl : j < (List.replicate j (4611686018427387904 : Int) ++ List.replicate (n + 1 - j) 0).length := by simp; omega
          have f1 := HJ.out.c.at_ (ints_get _ hjl)
          have f2 := HJ.out.c.free j
          clear hjl
          go_wp2_with fail
          go_roundw
          case rel =>
            refine ⟨j + 1, by go_num, by omega, ⟨?_⟩⟩
            have := HJ.out.set j 4611686018427387904
            rw [fill_set2 _ _ _ hlj] at this
            exact this
          case measure => simp [intOf]; omega
        · have hlji : ¬ (j : Int) < (n : Int) + 1 := by omega
          have h6 : LR w wr bo (most + 1) n (lrow (sF fs ord) least p n) rs r (List.replicate (n + 1) 4611686018427387904) := by
            have := HJ.out
            rw [show j = n + 1 by omega, Nat.sub_self] at this
            simpa using this
          have H6 := Aside0.mk h6; clear h6 HJ H5 c5
          by_cases hk0 : k = 0
          · subst hk0
            have f1 := H6.out.c.at_ (ints_get (List.replicate (n + 1) 4611686018427387904) (i := n) (by simp))
            have f2 := H6.out.c.free n
            go_wp2_with fail
            go_roundw
            case rel =>
              refine ⟨1, rs ++ [r], by go_num, by omega, ⟨by rw [List.length_append, HKL.out]; rfl, ?_⟩⟩
              have := H6.out.set n 0
              rw [lrow_zero (sF fs ord) least p] at this
              exact this.done (by rw [HKL.out])
            case measure => simp [intOf]
          · obtain ⟨k', rfl⟩ : ∃ k', k = k' + 1 := ⟨k - 1, by omega⟩
            have hk1 : ((((k' + 1 : Nat)) : Int) == 0) = false := by simp; omega
            have h7 : LR w wr bo (most + 1) n (lrow (sF fs ord) least p n) rs r (lpart (sF fs ord) least p n k' 0 0) := by rw [lpart_zero]; exact H6.out
            have H7 := Aside0.mk h7; clear h7 H6
            go_wp2_with fail
            go_loopw [9, 10, 53] (fun _ _ v wr => ∃ i : Nat, v = .int .i64 i ∧ i ≤ n ∧ Aside0 (LR w wr bo (most + 1) n (lrow (sF fs ord) least p n) rs r (lpart (sF fs ord) least p n k' i 0))) (fun _ _ v _ => n - (intOf v).toNat)
            case atStart => exact ⟨0, rfl, by omega, H7⟩
            case round =>
              obtain ⟨i, rfl, hi, HI⟩ := hrel
              clear H7
              by_cases hli : i < n
              · have hlii : (i : Int) < n := by omega
                go_wp2_with fail
                go_loopw [10] (fun v wr => ∃ d : Nat, v = .int .i64 ((i : Int) + 1 + d) ∧ d ≤ n - i ∧ Aside0 (LR w wr bo (most + 1) n (lrow (sF fs ord) least p n) rs r (lpart (sF fs ord) least p n k' i d))) (fun v _ => n + 1 - (intOf v).toNat)
                case atStart => exact ⟨0, by go_num, by omega, HI⟩
                case round =>
                  obtain ⟨d, rfl, hd, HD⟩ := hrel
                  clear HI
                  by_cases hld : d < n - i
                  · have hldi : (i : Int) + 1 + d ≤ n := by omega
                    have ht := HT.out.1.below HD.out.b
                    obtain ⟨g, cap, ecv, hcap, g1, g2⟩ := ht.cost (a := i) (j := i + 1 + d) (by rw [HT.out.2, ← HN.out]; exact hli) (by rw [← HN.out]; omega)
                    rw [HT.out.2, ← HN.out] at ecv hcap
                    rw [← HN.out] at g1 g2
                    rw [show (crowF (sF fs ord) least p n i).getD (i + 1 + d) 0 = pE (cO (sF fs ord) least p i (d + 1)) by
                      unfold crowF
                      rw [crow_get _ _ _ _ _ _ (by omega), if_pos (by omega), show i + 1 + d - i = d + 1 by omega]] at g2
                    have ct := ht.tb.t.at_ (i := 2) rfl
                    have cr0 := HD.out.row_at (a := k') (by rw [HKL.out]; omega)
                    have cr1 := (HD.out.rr k' (by rw [HKL.out]; omega)).at_ (ints_get _ (show i + 1 + d < (lrow (sF fs ord) least p n k').length by rw [lrow_length]; omega))
                    rw [lrow_get _ _ _ _ _ (by omega), show i + 1 + d = i + d + 1 by omega] at cr1
                    have co := HD.out.own
                    rw [HKL.out] at co
                    have cc := HD.out.c.at_ (ints_get _ (show i < (lpart (sF fs ord) least p n k' i d).length by rw [lpart_length]; omega))
                    rw [lpart_get _ _ _ _ _ _ _ hi] at cc
                    have cf := HD.out.c.free i
                    have bx := fun v (h : cO (sF fs ord) least p i (d + 1) = some v) => cO_bd HS.out (by omega) (by rw [← HN.out]; omega) h
                    have by_ := fun v (h : restO (sF fs ord) least p n k' (i + d + 1) = some v) => restO_bd (n := n) (by rw [HN.out]; exact HS.out) k' (i + d + 1) v (by omega) h
                    have hx := pE_lt (b := 1374252095766528) (fun v h => ⟨(bx v h).1, by have := (bx v h).2; omega⟩) (by decide)
                    have hy := pE_lt (b := 1374252095766528) (fun v h => ⟨(by_ v h).1, by have := (by_ v h).2; omega⟩) (by decide)
                    obtain ⟨x, hxx⟩ : ∃ z, z = pE (cO (sF fs ord) least p i (d + 1)) := ⟨_, rfl⟩
                    obtain ⟨y, hyy⟩ : ∃ z, z = pE (restO (sF fs ord) least p n k' (i + d + 1)) := ⟨_, rfl⟩
                    obtain ⟨u, huu⟩ : ∃ z, z = pE (minO (fun d => addO (cO (sF fs ord) least p i (d + 1)) (restO (sF fs ord) least p n k' (i + d + 1))) d) := ⟨_, rfl⟩
                    rw [← hxx] at g2 hx
                    rw [← hyy] at cr1 hy
                    rw [← huu] at cc
                    obtain ⟨ri, hri⟩ : ∃ z, z = r1s.getD i 0 := ⟨_, rfl⟩
                    obtain ⟨rk, hrk⟩ : ∃ z, z = rs.getD k' 0 := ⟨_, rfl⟩
                    rw [← hri] at g1 g2
                    rw [← hrk] at cr0 cr1
                    clear hri hrk
                    have cr1b := cr1
                    rw [show i + d + 1 = i + 1 + d by omega] at cr1b
                    have HXY := Aside0.mk (And.intro hxx (And.intro hyy (And.intro huu (And.intro bx by_))))
                    subst ecv
                    clear bx by_ hxx hyy huu ht
                    by_cases hx1 : x < 4611686018427387904
                    · have hx2 := hx.1 hx1
                      have dx : decide (x < 4611686018427387904) = true := decide_eq_true hx1
                      by_cases hy1 : y < 4611686018427387904
                      · have hy2 := hy.1 hy1
                        have dy : decide (y < 4611686018427387904) = true := decide_eq_true hy1
                        have hnew : pE (minO (fun d => addO (cO (sF fs ord) least p i (d + 1)) (restO (sF fs ord) least p n k' (i + d + 1))) (d + 1)) = min u (x + y) ∧ (0 ≤ x ∧ x ≤ 1374252095766528) ∧ 0 ≤ y ∧ y ≤ 1374252095766528 := by
                          obtain ⟨a1, a2, a3, a4, a5⟩ := HXY.out
                          cases e1 : cO (sF fs ord) least p i (d + 1) with
                          | none => exact absurd e1 hx2
                          | some x' =>
                            cases e2 : restO (sF fs ord) least p n k' (i + d + 1) with
                            | none => exact absurd e2 hy2
                            | some y' =>
                              have b1 := a4 x' e1
                              have b2 := a5 y' e2
                              rw [e1] at a1
                              rw [e2] at a2
                              have f1 : x = x' := a1
                              have f2 : y = y' := a2
                              refine ⟨?_, by omega, by omega⟩
                              show pE (omin _ (addO (cO (sF fs ord) least p i (d + 1)) (restO (sF fs ord) least p n k' (i + d + 1)))) = _
                              rw [e1, e2, a3]
                              show pE (omin _ (some (x' + y'))) = _
                              rw [f1, f2]
                              cases minO (fun d => addO (cO (sF fs ord) least p i (d + 1)) (restO (sF fs ord) least p n k' (i + d + 1))) d with
                              | none => show x' + y' = min 4611686018427387904 (x' + y'); omega
                              | some z => rfl
                        obtain ⟨hnew, ⟨hx3, hx4⟩, hy3, hy4⟩ := hnew
                        have HNEW := Aside0.mk hnew
                        clear hx hy hx2 hy2 hnew
                        have q1 : k' < most := by omega
                        have q2 : (0 : Int) ≤ (k' : Int) + 1 := by omega
                        have q3 : k' < most + 1 := by omega
                        have q4 : (0 : Int) ≤ (i : Int) + 1 + d := by omega
                        have q5 : (i : Int) + 1 + d < (n : Int) + 1 := by omega
                        have q6 : (i : Int) < (n : Int) + 1 := by omega
                        have q7 : i + 1 + d < n + 1 := by omega
                        have q8 : ((i : Int) + 1 + d).toNat = i + 1 + d := by omega
                        have q10 : IntKind.i64.wrap (k' : Int) = k' := IntWalk.i64_in _ (by omega)
                        have q11 : (k' : Int) < (most : Int) + 1 := by omega
                        have q9 : IntKind.i64.wrap (x + y) = x + y := IntWalk.i64_in _ (by omega)
                        go_upto_region 21 with fail
                        go_still_tail 33, (by kernel_rfl)
                        change wpList _ _ _ _ _ wr.drew
                        go_wp2_with fail
                        go_roundw
                        case rel =>
                          have hmn : min u (x + y) = if x + y < u then x + y else u := by split <;> omega
                          have hz := HD.out.set i (min u (x + y))
                          rw [← HNEW.out, lpart_step _ _ _ _ _ _ _ hi, HNEW.out, hmn] at hz
                          exact ⟨d + 1, by go_num, by omega, ⟨hz.drew⟩⟩
                        case measure => simp [intOf]; omega
                      · have dy : decide (y < 4611686018427387904) = false := decide_eq_false hy1
                        have hno : addO (cO (sF fs ord) least p i (d + 1)) (restO (sF fs ord) least p n k' (i + d + 1)) = none := by
                          cases e2 : restO (sF fs ord) least p n k' (i + d + 1) with
                          | none => cases cO (sF fs ord) least p i (d + 1) <;> rfl
                          | some y' => exact absurd (hy.2 (by rw [e2]; simp)) hy1
                        have HNO := Aside0.mk hno; clear hno hx hy hx2
                        go_wp2_with fail
                        go_roundw
                        case rel => exact ⟨d + 1, by go_num, by omega, ⟨by rw [← lpart_same _ _ _ _ _ _ _ HNO.out]; exact HD.out⟩⟩
                        case measure => simp [intOf]; omega
                    · have dx : decide (x < 4611686018427387904) = false := decide_eq_false hx1
                      have hno : addO (cO (sF fs ord) least p i (d + 1)) (restO (sF fs ord) least p n k' (i + d + 1)) = none := by
                        cases e1 : cO (sF fs ord) least p i (d + 1) with
                        | none => rfl
                        | some x' => exact absurd (hx.2 (by rw [e1]; simp)) hx1
                      have HNO := Aside0.mk hno; clear hno hx hy
                      go_wp2_with fail
                      go_roundw
                      case rel => exact ⟨d + 1, by go_num, by omega, ⟨by rw [← lpart_same _ _ _ _ _ _ _ HNO.out]; exact HD.out⟩⟩
                      case measure => simp [intOf]; omega
                  · have hldi : ¬ (i : Int) + 1 + d ≤ n := by omega
                    go_wp2_with fail
                    go_roundw
                    case rel => exact ⟨i + 1, by go_num, by omega, ⟨by rw [← lpart_next _ _ _ _ _ _ hli, show n - i = d by omega]; exact HD.out⟩⟩
                    case measure => simp [intOf]; omega
              · have hlii : ¬ (i : Int) < n := by omega
                go_wp2_with fail
                go_roundw
                case rel =>
                  refine ⟨k' + 1 + 1, rs ++ [r], by go_num, by omega, ⟨by rw [List.length_append, HKL.out]; rfl, ?_⟩⟩
                  have := HI.out
                  rw [show i = n by omega, lpart_last] at this
                  exact this.done (by rw [HKL.out])
                case measure => simp [intOf]; omega
    · have hlti : ¬ (k : Int) < (most : Int) + 1 := by omega
      go_wp2_with fail
      go_ret
      exact ⟨bo, rs, rfl, HK.out.2, by rw [HK.out.1]; omega⟩
end Go.Proofs.Ythkfahkkcjagdaa

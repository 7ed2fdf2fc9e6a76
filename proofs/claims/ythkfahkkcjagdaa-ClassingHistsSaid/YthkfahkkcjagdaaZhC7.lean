/- Texts of this claim and words of the kit's print, trimmed to what it uses and joined. -/
import Derived.Deep.AppendLies
import Derived.Deep.CutBlock
import Derived.Deep.RegionLaw
import Derived.Deep.DrawnRows
import Derived.Test.YthkfahkkcjagdaaZhC
section
namespace Go.Proofs.Ythkfahkkcjagdaa
open Go.RowKit Go.Proofs.YthkfahkkcjagdaaW.PrintWords Go.Proofs.YthkfahkkcjagdaaW.PrintMore Go.Proofs.YthkfahkkcjagdaaW.PrintLast

attribute [local go_sem ↓] Go.wp_at_zero Go.wp_at_succ
theorem fill_mk (w : World) (o : Obj) (n : Nat) : Blk (((w.alloc o).alloc (.cells (madeCells #[.int .i64 0] n) 3)).alloc (.cells (madeCells #[.int .i64 0] n) 3)).drew (w.heap.size + 1) (ints (List.replicate n 0)) 3 ∧ Blk (((w.alloc o).alloc (.cells (madeCells #[.int .i64 0] n) 3)).alloc (.cells (madeCells #[.int .i64 0] n) 3)).drew (w.heap.size + 1 + 1) (ints (List.replicate n 0)) 3 ∧ Below (w.alloc o).heap.size (w.alloc o) (((w.alloc o).alloc (.cells (madeCells #[.int .i64 0] n) 3)).alloc (.cells (madeCells #[.int .i64 0] n) 3)).drew := by
  have e : (w.alloc o).heap.size = w.heap.size + 1 := by simp
  rw [made_ints]
  have a := h2_0 (w.alloc o) (ints (List.replicate n 0)).toArray (ints (List.replicate n 0)).toArray 3 3
  have b := h2_1 (w.alloc o) (ints (List.replicate n 0)).toArray (ints (List.replicate n 0)).toArray 3 3
  rw [e] at a b
  exact ⟨a, b, h2_b _ _ _ _ _⟩
theorem fill_set (n j : Nat) (v : Int) (h : j < n) : (List.replicate j v ++ List.replicate (n - j) 0).set j v = List.replicate (j + 1) v ++ List.replicate (n - (j + 1)) 0 := by
  rw [List.set_append_right _ _ (by simp), List.length_replicate, Nat.sub_self, show n - j = (n - (j + 1)) + 1 by omega, List.replicate_succ, List.set_cons_zero, List.replicate_succ', List.append_assoc]
  rfl
theorem at_nat (w : World) (bt o : Nat) (A : Option Addr) (cf : Nat) (fs : List Fl) (ord : List Int) (cv ev : Value) (h : TB w bt o A cf fs ord cv ev) (i : Nat) (h1 : i < fs.length) (x : Int) (hx : x = i) :
    Calls Try.prog 105 #[.pointer (some ⟨bt, 0, none⟩), .int .i64 x] w fun e w' => e = .returned (.agg #[.int .u8 (sF fs ord i).k0, .int .u8 (sF fs ord i).k1, .int .u8 (sF fs ord i).k2, .int .u8 (sF fs ord i).k3, .int .i64 (sF fs ord i).mic, .int .i64 (sF fs ord i).gr]) ∧ Below w.heap.size w w' := by
  subst hx
  exact at_any w bt o A cf fs ord cv ev h i (by omega) (by omega)

set_option maxHeartbeats 40000000 in
set_option maxRecDepth 100000 in
theorem row_any (w : World) (bt o : Nat) (A : Option Addr) (cf : Nat) (fs : List Fl) (ord : List Int) (cv ev : Value) (h : TB w bt o A cf fs ord cv ev) (hn : fs.length ≤ 128) (i : Nat) (hi : i < fs.length) (l least p : Int) (hl : 0 ≤ least ∧ least ≤ 1073741824) (hp : 0 ≤ p ∧ p ≤ 10000) (hs : SOK (sF fs ord) fs.length) (hr : SRT (sF fs ord) fs.length) (N : Nat) (hN : N ≤ w.heap.size) (cs es : List Value) (hcv : OwnS w N cv cs) (hev : OwnS w N ev es) (hcl : cs.length ≤ 200) (hel : es.length ≤ 200) (hdj : ∀ k, cv.ownBlock = some k → ev.ownBlock ≠ some k) (hA : 0 < fs.length → ∀ ad, A = some ad → ad.block < N) (hNb : N ≤ bt) :
    Calls Try.prog 104 #[.pointer (some ⟨bt, 0, none⟩), .int .i64 i, .agg #[.int .i64 l, .int .i64 least, .int .i64 p]] w (RowPost w bt o A cf fs ord cv ev N cs es i least p) := by
  have c1 := h.t.at_ (i := 1) rfl
  have al : ∀ {a : Addr} {v : Value}, w.cell? a = some v → ∀ o, (w.alloc o).cell? a = some v := fun {a v} h o => (World.cell?_alloc_lt w o a (World.block_lt_of_cell? w a h)).trans h
  have c1a := al c1
  clear al
  have hb0 := below_alloc (Below.refl w.heap.size w) (.cells #[.int .i64 l, .int .i64 least, .int .i64 p] 24)
  have HT := Aside0.mk h; clear h
  have HCE := Aside0.mk (And.intro hcv (And.intro hev hdj)); clear hcv hev hdj
  have HAN := Aside0.mk hA; clear hA
  have HS := Aside0.mk hs; clear hs
  have HR := Aside0.mk hr; clear hr
  obtain ⟨n, hn0⟩ : ∃ z, z = fs.length := ⟨_, rfl⟩
  have mk1 := print_make (P := Try.prog) 35 3 .i64 8 Try.underlying35 info3 (by decide) (n + 1) (by omega)
  rw [show ((n + 1 : Nat) : Int) = (n : Int) + 1 by omega] at mk1
  rw [← hn0] at c1 c1a hn hi
  have HN := Aside0.mk hn0; clear hn0
  have fmic := fl_mic
  have fgr := fl_gr
  go_enter Try.func104, Try.ntmps104
  go_upto_region 2 with fail
  clear c1 c1a
  obtain ⟨B1a, B1b, B1c⟩ := fill_mk w (.cells #[.int .i64 l, .int .i64 least, .int .i64 p] 24) (n + 1)
  have HSP := Aside0.mk (Blk.new w [.int .i64 l, .int .i64 least, .int .i64 p] 24)
  have HB0 := Aside0.mk hb0; clear hb0
  have H0 := Aside0.mk (And.intro B1a (And.intro B1b B1c)); clear B1a B1b B1c
  go_cut [7, 8] from 23 to 28 (fun a b w1 => ∃ r1 r2 : Nat, a = .slice (some ⟨r1, 0, none⟩) (n + 1) (n + 1) ∧ b = .slice (some ⟨r2, 0, none⟩) (n + 1) (n + 1) ∧ Aside0 ((Blk w1 r1 (ints (List.replicate (n + 1) 0)) 3 ∧ Blk w1 r2 (ints (List.replicate (n + 1) 0)) 3) ∧ (r1 ≠ r2 ∧ w.heap.size ≤ r1 ∧ w.heap.size ≤ r2) ∧ Blk w1 w.heap.size [.int .i64 l, .int .i64 least, .int .i64 p] 24 ∧ Below w.heap.size w w1))
  case first =>
    go_region
    all_goals go_wp2_with fail
    all_goals clear mk1
    all_goals go_meet
    all_goals (case rel => exact ⟨_, _, rfl, rfl, ⟨by first | exact ⟨H0.out.1, H0.out.2.1⟩ | exact ⟨H0.out.2.1, H0.out.1⟩, by omega, HSP.out.below H0.out.2.2, below_step HB0.out H0.out.2.2⟩⟩)
  case rest =>
  clear H0 HSP HB0 mk1
  obtain ⟨r1, r2, rfl, rfl, H1⟩ := hcut
  obtain ⟨w1, hw1⟩ : ∃ z, z = wc := ⟨_, rfl⟩
  rw [← hw1] at H1 ⊢
  clear hw1
  go_upto_block 0 with fail
  go_cut [9] from 29 to 37 (fun _ w3 => Aside0 (Blk w3 r1 (ints (List.replicate (n + 1) 4611686018427387904)) 3 ∧ Kp (fun k => k = r1) w1 w3))
  case first =>
    go_wp2_with fail
    go_loopw [9, 31] (fun _ v wr => ∃ j : Nat, v = .int .i64 j ∧ j ≤ n + 1 ∧ Aside0 (Blk wr r1 (ints (List.replicate j 4611686018427387904 ++ List.replicate (n + 1 - j) 0)) 3 ∧ Kp (fun k => k = r1) w1 wr)) (fun _ v _ => n + 1 - (intOf v).toNat)
    case atStart => exact ⟨0, rfl, by omega, ⟨H1.out.1.1, Kp.refl _ _⟩⟩
    case round =>
      obtain ⟨j, rfl, hj, HJ⟩ := hrel
      by_cases hlt : j < n + 1
      · have hlti : (j : Int) < (n : Int) + 1 := by omega
        have hjl : j < (List.replicate j (4611686018427387904 : Int) ++ List.replicate (n + 1 - j) 0).length := by simp; omega
        have f1 := HJ.out.1.at_ (ints_get _ hjl)
        have f2 := HJ.out.1.free j
        clear hjl
        go_wp2_with fail
        go_roundw
        case rel =>
          refine ⟨j + 1, by go_num, by omega, ⟨?_, HJ.out.2.setCell (fun _ => rfl) _⟩⟩
          have := HJ.out.1.set j (.int .i64 4611686018427387904)
          rw [ints_set, fill_set _ _ _ hlt] at this
          exact this
        case measure => simp [intOf]; omega
      · have hlti : ¬ (j : Int) < (n : Int) + 1 := by omega
        go_wp2_with fail
        go_meet
        case rel =>
          refine ⟨?_, HJ.out.2⟩
          have := HJ.out.1
          rw [show j = n + 1 by omega, Nat.sub_self] at this
          simpa using this
  case rest =>
  have HJ := hcut
  clear hcut
  obtain ⟨w3, hw3⟩ : ∃ z, z = wc := ⟨_, rfl⟩
  rw [← hw3] at HJ ⊢
  clear hw3
  have HA := Aside0.mk (fun W (hW : TB W bt o A cf fs ord cv ev) => at_nat W bt o A cf fs ord cv ev hW i (by rw [← HN.out]; exact hi) (i : Int) rfl)
  obtain ⟨f1, hf1⟩ : ∃ z, z = sF fs ord i := ⟨_, rfl⟩
  rw [← hf1] at HA
  obtain ⟨p0, p1, p2, p3, p4, p5⟩ := f1
  dsimp only at HA
  have hp45 := HS.out i (by rw [← HN.out]; exact hi)
  rw [← hf1] at hp45
  dsimp only at hp45
  obtain ⟨⟨hp41, hp42⟩, _, _⟩ := hp45
  have HF1 := Aside0.mk hf1; clear hf1
  obtain ⟨z1, hz1⟩ := (show ∃ z : Nat, z < w.heap.size ∧ z = bt from ⟨bt, HT.out.t.lt, rfl⟩)
  have HZ := Aside0.mk (And.intro hz1.1 (And.intro hz1.2 (And.intro HT.out.o.lt (CF_lt HT.out.f)))); clear hz1
  have htb : TB w3 bt o A cf fs ord cv ev := by
    have hb := HT.out.below H1.out.2.2.2
    refine hb.kp HJ.out.2 ?_ ?_ ?_
    · exact hb.t.ne_of_type H1.out.1.1 (by decide)
    · intro he; have := HZ.out.2.2.1; have := H1.out.2.1.2.1; omega
    · intro h0 ad ea he; have := HZ.out.2.2.2 h0 ad ea; have := H1.out.2.1.2.1; omega
  have HTB := Aside0.mk htb; clear htb
  go_upto_region 9 with ((with_reducible refine (HA.out _ HTB.out).mono ?_); rintro e5 w5 ⟨rfl, hb5⟩; have HB5 := Aside0.mk hb5; clear hb5)
  have hrm : RM (w5.alloc (.cells #[.int .u8 p0, .int .u8 p1, .int .u8 p2, .int .u8 p3, .int .i64 p4, .int .i64 p5] 44)) w bt o A cf fs ord cv ev w.heap.size w5.heap.size r1 r2 [.int .i64 l, .int .i64 least, .int .i64 p] ⟨p0, p1, p2, p3, p4, p5⟩ (crow (sF fs ord) least p n i 0) (erow (sF fs ord) n i 0) := by
    have hk := HJ.out.2
    rw [crow_zero, erow_zero]
    have hbw : Below w.heap.size w w3 := ((Kp.of_below H1.out.2.2.2 : Kp (fun k => k = r1) w w1).step hk).below_of (fun i hi => by have := H1.out.2.1.2.1; omega)
    have hs1 : Blk w3 w.heap.size [.int .i64 l, .int .i64 least, .int .i64 p] 24 := H1.out.2.2.1.kp hk (fun he => (H1.out.2.2.1.ne_of_type H1.out.1.1 (by decide)) he)
    have he1 : Blk w3 r2 (ints (List.replicate (n + 1) 0)) 3 := H1.out.1.2.kp hk (Ne.symm H1.out.2.1.1)
    have hB := HB5.out
    have al := below_alloc (Below.refl w5.heap.size w5) (.cells (fcs ⟨p0, p1, p2, p3, p4, p5⟩).toArray 44)
    exact ⟨(HTB.out.below hB).below al, (hs1.below hB).below al, Blk.new w5 (fcs ⟨p0, p1, p2, p3, p4, p5⟩) 44, (HJ.out.1.below hB).below al, (he1.below hB).below al, below_step (below_step hbw hB) al, H1.out.2.1.1, H1.out.2.1.2.1, H1.out.2.1.2.2, Nat.le_refl _, by have := hbw.size; have := hB.size; omega, by have := HZ.out.1; have := HZ.out.2.1; omega, HZ.out.2.2.1, HZ.out.2.2.2⟩
  generalize (w5.alloc (.cells #[.int .u8 p0, .int .u8 p1, .int .u8 p2, .int .u8 p3, .int .i64 p4, .int .i64 p5] 44)) = w6 at hrm ⊢
  have H6 := Aside0.mk hrm
  clear hrm HA HTB HB5 HJ H1
  obtain ⟨b1, hb1⟩ : ∃ z, z = w5.heap.size := ⟨_, rfl⟩
  rw [← hb1] at H6 ⊢
  obtain ⟨bs, hbs⟩ : ∃ z, z = w.heap.size := ⟨_, rfl⟩
  rw [← hbs] at H6 ⊢
  clear hb1 hbs
  have HIN : Aside0 (i < n) := ⟨hi⟩
  go_upto_block 2 with fail
  go_cut [11, 12, 13, 14, 15, 16, 17] from 43 to 136 (fun _ _ _ _ _ _ _ w7 => Aside0 (RM w7 w bt o A cf fs ord cv ev bs b1 r1 r2 [.int .i64 l, .int .i64 least, .int .i64 p] ⟨p0, p1, p2, p3, p4, p5⟩ (crowF (sF fs ord) least p n i) (erowF (sF fs ord) p n i)))
  case first =>
   as_aux_lemma =>
    go_wp2_with fail
    go_loopw [11, 12, 13, 14, 15, 16, 17] (fun v11 v12 v13 v14 v15 _ _ wr => ∃ (d c : Nat) (M B C : Int), v11 = .int .i64 M ∧ v12 = .int .i64 B ∧ v13 = .int .i64 ((i : Int) + c) ∧ v14 = .int .i64 C ∧ v15 = .int .i64 ((i : Int) + d) ∧ i + d ≤ n ∧ c ≤ d ∧ 0 ≤ M ∧ M ≤ d * 1073741824 ∧ 0 ≤ B ∧ B ≤ M ∧ 0 ≤ C ∧ C ≤ d * 10736344498176 ∧ Aside0 (M = massD (sF fs ord) i d ∧ B = massD (sF fs ord) i c ∧ c = med (sF fs ord) i d ∧ C = costD (sF fs ord) i (cen (sF fs ord) i d) d ∧ okR (sF fs ord) p i d = true) ∧ Aside0 (RM wr w bt o A cf fs ord cv ev bs b1 r1 r2 [.int .i64 l, .int .i64 least, .int .i64 p] ⟨p0, p1, p2, p3, p4, p5⟩ (crow (sF fs ord) least p n i d) (erow (sF fs ord) n i d))) (fun _ _ _ _ v15 _ _ _ => n - (intOf v15).toNat)
    case atStart => exact ⟨0, 0, 0, 0, 0, rfl, rfl, by go_num, rfl, by go_num, by omega, by omega, by omega, by omega, by omega, by omega, by omega, by omega, ⟨rfl, rfl, rfl, rfl, rfl⟩, H6⟩
    case round =>
      obtain ⟨d, c, M, B, C, rfl, rfl, rfl, rfl, rfl, hd, hc, hM0, hM1, hB0, hB1, hC0, hC1, HX, H7⟩ := hrel
      by_cases hlt : i + d < n
      · have hlti : (i : Int) + d < n := by omega
        have HQ := Aside0.mk (fun W (hW : TB W bt o A cf fs ord cv ev) => at_nat W bt o A cf fs ord cv ev hW (i + d) (by rw [← HN.out]; exact hlt) ((i : Int) + d) (by omega))
        have hq := HS.out (i + d) (by rw [← HN.out]; exact hlt)
        obtain ⟨f2, hf2⟩ : ∃ z, z = sF fs ord (i + d) := ⟨_, rfl⟩
        rw [← hf2] at HQ hq
        obtain ⟨q0, q1, q2, q3, q4, q5⟩ := f2
        dsimp only at HQ hq
        obtain ⟨⟨hq1, hq2⟩, hq3, hq4⟩ := hq
        have HF2 := Aside0.mk hf2; clear hf2
        go_upto_region 14 with ((with_reducible refine (HQ.out _ H7.out.tb).mono ?_); rintro e5 w5 ⟨rfl, hb5⟩; have HB5 := Aside0.mk hb5; clear hb5)
        have al := below_alloc (Below.refl w5.heap.size w5) (.cells (fcs ⟨q0, q1, q2, q3, q4, q5⟩).toArray 44)
        have h8 : RM (w5.alloc (.cells #[.int .u8 q0, .int .u8 q1, .int .u8 q2, .int .u8 q3, .int .i64 q4, .int .i64 q5] 44)) w bt o A cf fs ord cv ev bs b1 r1 r2 [.int .i64 l, .int .i64 least, .int .i64 p] ⟨p0, p1, p2, p3, p4, p5⟩ (crow (sF fs ord) least p n i d) (erow (sF fs ord) n i d) := (H7.out.below HB5.out).below al
        have g8 : Blk (w5.alloc (.cells #[.int .u8 q0, .int .u8 q1, .int .u8 q2, .int .u8 q3, .int .i64 q4, .int .i64 q5] 44)) w5.heap.size (fcs ⟨q0, q1, q2, q3, q4, q5⟩) 44 := Blk.new w5 (fcs ⟨q0, q1, q2, q3, q4, q5⟩) 44
        generalize (w5.alloc (.cells #[.int .u8 q0, .int .u8 q1, .int .u8 q2, .int .u8 q3, .int .i64 q4, .int .i64 q5] 44)) = w8 at h8 g8 ⊢
        clear al HB5 H7 HQ
        obtain ⟨b2, hb2⟩ : ∃ z, z = w5.heap.size := ⟨_, rfl⟩
        rw [← hb2] at g8 ⊢
        clear hb2
        have x0 := g8.at_ (i := 0) rfl
        have x1 := g8.at_ (i := 1) rfl
        have x2 := g8.at_ (i := 2) rfl
        have x3 := g8.at_ (i := 3) rfl
        have x4 := g8.at_ (i := 4) rfl
        have x5 := g8.at_ (i := 5) rfl
        have y0 := h8.f.at_ (i := 0) rfl
        have y1 := h8.f.at_ (i := 1) rfl
        have y2 := h8.f.at_ (i := 2) rfl
        have y3 := h8.f.at_ (i := 3) rfl
        have y4 := h8.f.at_ (i := 4) rfl
        have z1 := h8.s.at_ (i := 1) rfl
        have z2 := h8.s.at_ (i := 2) rfl
        have H8 := Aside0.mk (And.intro h8 g8)
        clear h8 g8
        have hok : Aside0 (okR (sF fs ord) p i (d + 1) = (decide (p0 = q0 ∧ p1 = q1 ∧ p2 = q2 ∧ p3 = q3) && decide (q4 - p4 ≤ p))) := ⟨by
          show (okR (sF fs ord) p i d && _) = _
          rw [HX.out.2.2.2.2, ← HF1.out, ← HF2.out, Bool.true_and]
          rfl⟩
        go_cut [65] from 51 to 65 (fun v w9 => v = .bool (!okR (sF fs ord) p i (d + 1)) ∧ w8 = w9)
        case first =>
          by_cases hk : p0 = q0 ∧ p1 = q1 ∧ p2 = q2 ∧ p3 = q3
          · obtain ⟨rfl, rfl, rfl, rfl⟩ := hk
            have hok2 : Aside0 (okR (sF fs ord) p i (d + 1) = decide (q4 - p4 ≤ p)) := ⟨by rw [hok.out]; simp⟩
            have ke : ∀ W, (Op.equalIn 10000 34 (.agg #[.int .u8 p0, .int .u8 p1, .int .u8 p2, .int .u8 p3]) (.agg #[.int .u8 p0, .int .u8 p1, .int .u8 p2, .int .u8 p3])).run Try.prog W = .ok true W := fun W => by rw [kind_eql]; simp
            by_cases hsp : q4 - p4 ≤ p
            · have hd1 : decide (p < q4 - p4) = false := decide_eq_false (by omega)
              go_wp2_with fail
              go_meet
              case rel => exact ⟨by rw [hok2.out]; simp [hsp], rfl⟩
            · have hd1 : decide (p < q4 - p4) = true := decide_eq_true (by omega)
              go_wp2_with fail
              go_meet
              case rel => exact ⟨by rw [hok2.out]; simp [hsp], rfl⟩
          · have hok2 : Aside0 (okR (sF fs ord) p i (d + 1) = false) := ⟨by rw [hok.out, decide_eq_false hk]; rfl⟩
            have ke : ∀ W, (Op.equalIn 10000 34 (.agg #[.int .u8 q0, .int .u8 q1, .int .u8 q2, .int .u8 q3]) (.agg #[.int .u8 p0, .int .u8 p1, .int .u8 p2, .int .u8 p3])).run Try.prog W = .ok false W := fun W => by rw [kind_eql, decide_eq_false (by omega)]
            go_wp2_with fail
            go_meet
            case rel => exact ⟨by rw [hok2.out]; rfl, rfl⟩
        case rest =>
        obtain ⟨rfl, rfl⟩ := hcut
        clear hok x0 x1 x2 x3 y0 y1 y2 y3 y4 z2
        cases hok1 : okR (sF fs ord) p i (d + 1) with
        | false =>
          have HOK := Aside0.mk hok1; clear hok1
          go_wp2_with fail
          go_meet
          case rel => exact ⟨by rw [← crowF_of (d := d) (by omega) (fun _ => HOK.out), ← erowF_of (d := d) (by omega) HX.out.2.2.2.2 (fun _ => HOK.out)]; exact H8.out.1⟩
        | true =>
          have hoka : okR (sF fs ord) p i (d + 1) = true := hok1
          have HOK := Aside0.mk hok1; clear hok1
          have hcd : i + c < n := by omega
          have HQC := Aside0.mk (fun W (hW : TB W bt o A cf fs ord cv ev) => at_nat W bt o A cf fs ord cv ev hW (i + c) (by rw [← HN.out]; exact hcd) ((i : Int) + c) (by omega))
          have hg := HS.out (i + c) (by rw [← HN.out]; exact hcd)
          have hmono : (sF fs ord (i + c)).mic ≤ (sF fs ord (i + d)).mic := run_mono HR.out (by rw [← HN.out]; omega) hoka hc (by omega)
          have hcen : C = costD (sF fs ord) i (sF fs ord (i + c)).mic d := by rw [HX.out.2.2.2.1]; unfold cen; rw [← HX.out.2.2.1]
          rw [← HF2.out] at hmono
          clear hoka
          obtain ⟨f3, hf3⟩ : ∃ z, z = sF fs ord (i + c) := ⟨_, rfl⟩
          rw [← hf3] at HQC hg hmono hcen
          obtain ⟨g0, g1, g2, g3, g4, g5⟩ := f3
          dsimp only at HQC hg hmono hcen
          obtain ⟨⟨hg1, hg2⟩, _, _⟩ := hg
          have HCEN := Aside0.mk hcen; clear hcen
          have HF3 := Aside0.mk hf3; clear hf3
          have hT := mul_bd (x := q5) (y := q4 - g4) (a := 1073741824) (b := 9999) (by omega) hq4 (by omega) (by omega)
          obtain ⟨hT0, hT1⟩ := hT
          have hbM := (massD_bd HS.out i (d + 1) (by rw [← HN.out]; omega)).2
          go_upto_region 16 with fail
          go_region_held_law (fun W => W.cell? ⟨b2, 4, none⟩ = some (.int .i64 q4) ∧ W.cell? ⟨b2, 5, none⟩ = some (.int .i64 q5)) (first | exact ⟨HB6.out.2.at_ (i := 4) rfl, HB6.out.2.at_ (i := 5) rfl⟩ | go_keep)
            ((refine (HQC.out _ (H8.out.1.tb.below (below_drew (Below.refl _ _)))).mono ?_; rintro e6 w6 ⟨rfl, hb6⟩; have HB6 := Aside0.mk (And.intro (H8.out.1.below (below_step (below_drew (Below.refl _ _)) hb6)) (H8.out.2.below (below_step (below_drew (Below.refl _ _)) hb6))); clear hb6))
          go_wp2_with fail
          have hM1 : M + q5 = massD (sF fs ord) i (d + 1) := by
            show _ = massD (sF fs ord) i d + (sF fs ord (i + d)).gr
            rw [← HX.out.1, ← HF2.out]
          have HM1 := Aside0.mk hM1; clear hM1
          clear x4 x5 z1 HQC
          go_loopw [12, 13, 14, 17] (fun v12 v13 v14 _ wr => ∃ (e : Nat) (B' C' : Int), v12 = .int .i64 B' ∧ v13 = .int .i64 ((i : Int) + e) ∧ v14 = .int .i64 C' ∧ c ≤ e ∧ e ≤ d ∧ 0 ≤ B' ∧ B' ≤ M + q5 ∧ 0 ≤ C' ∧ C' ≤ ((d : Int) + 1) * 10736344498176 ∧ Aside0 (B' = massD (sF fs ord) i e ∧ C' = costD (sF fs ord) i (sF fs ord (i + e)).mic (d + 1) ∧ ∀ a, a < e → 2 * massD (sF fs ord) i (a + 1) < massD (sF fs ord) i (d + 1)) ∧ Aside0 (RM wr w bt o A cf fs ord cv ev bs b1 r1 r2 [.int .i64 l, .int .i64 least, .int .i64 p] ⟨p0, p1, p2, p3, p4, p5⟩ (crow (sF fs ord) least p n i d) (erow (sF fs ord) n i d) ∧ Blk wr b2 (fcs ⟨q0, q1, q2, q3, q4, q5⟩) 44)) (fun _ v13 _ _ _ => i + d - (intOf v13).toNat)
          case atStart =>
            refine ⟨c, B, C + q5 * (q4 - g4), rfl, rfl, by rw [IntWalk.i64_in (q4 - g4) (by omega), IntWalk.i64_in (q5 * (q4 - g4)) (by omega), IntWalk.i64_in (C + q5 * (q4 - g4)) (by omega)], Nat.le_refl _, hc, hB0, by omega, by omega, by omega, ⟨HX.out.2.1, ?_, fun a ha => med_mono HS.out (by rw [← HN.out]; omega) (by rw [← HX.out.2.2.1]; exact ha)⟩, HB6⟩
            show _ = costD (sF fs ord) i _ d + (sF fs ord (i + d)).gr * distI _ (sF fs ord (i + d)).mic
            rw [HCEN.out, ← HF3.out, ← HF2.out]
            unfold distI
            rw [if_pos (by omega)]
          case round =>
            obtain ⟨e, B', C', rfl, rfl, rfl, he1, he2, hB0', hB1', hC0', hC1', HY, H9⟩ := hrel
            have hed : i + e < n := by omega
            have HQE := Aside0.mk (fun W (hW : TB W bt o A cf fs ord cv ev) => at_nat W bt o A cf fs ord cv ev hW (i + e) (by rw [← HN.out]; exact hed) ((i : Int) + e) (by omega))
            have hg := HS.out (i + e) (by rw [← HN.out]; exact hed)
            obtain ⟨f4, hf4⟩ : ∃ z, z = sF fs ord (i + e) := ⟨_, rfl⟩
            rw [← hf4] at HQE hg
            obtain ⟨e0, e1, e2, e3, e4, e5⟩ := f4
            dsimp only at HQE hg
            obtain ⟨⟨he41, he42⟩, he51, he52⟩ := hg
            have HF4 := Aside0.mk hf4; clear hf4
            have hBe : B' + e5 = massD (sF fs ord) i (e + 1) := by
              show _ = massD (sF fs ord) i e + (sF fs ord (i + e)).gr
              rw [← HY.out.1, ← HF4.out]
            have HBE := Aside0.mk hBe; clear hBe
            clear HB6
            by_cases hcond : 2 * (B' + e5) < M + q5
            · have hed1 : e + 1 ≤ d := by
                rcases Nat.lt_or_ge e d with h | h
                · exact h
                · have h1 := HBE.out
                  rw [show e = d by omega, ← HM1.out] at h1
                  omega
              have hed2 : i + (e + 1) < n := by omega
              have HQG := Aside0.mk (fun W (hW : TB W bt o A cf fs ord cv ev) => at_nat W bt o A cf fs ord cv ev hW (i + (e + 1)) (by rw [← HN.out]; exact hed2) ((i : Int) + e + 1) (by omega))
              have hg := HS.out (i + (e + 1)) (by rw [← HN.out]; exact hed2)
              have hst := costD_step (s := sF fs ord) (i := i) (c := e) (d - e) (fun k hk => run_mono HR.out (by rw [← HN.out]; omega) HOK.out hk (by omega)) (run_mono HR.out (by rw [← HN.out]; omega) HOK.out (by omega) (by omega)) (fun k hk1 hk2 => run_mono HR.out (by rw [← HN.out]; omega) HOK.out hk1 (by omega))
              have hmo := run_mono (a := e) (b := e + 1) HR.out (by rw [← HN.out]; omega) HOK.out (by omega) (by omega)
              have hbd := costD_bd HS.out i (m := (sF fs ord (i + (e + 1))).mic) hg.1 (d + 1) (by rw [← HN.out]; omega)
              rw [show e + 1 + (d - e) = d + 1 by omega, ← HM1.out, ← HBE.out, ← HY.out.2.1] at hst
              rw [hst] at hbd
              obtain ⟨f5, hf5⟩ : ∃ z, z = sF fs ord (i + (e + 1)) := ⟨_, rfl⟩
              rw [← hf5] at HQG hg hmo hbd hst
              rw [← HF4.out] at hmo hbd hst
              have HST := Aside0.mk hst; clear hst
              obtain ⟨h0, h1, h2, h3, h4, h5⟩ := f5
              dsimp only at HQG hg hmo hbd
              obtain ⟨⟨hh41, hh42⟩, _, _⟩ := hg
              have HF5 := Aside0.mk hf5; clear hf5
              have hP1 := mul_bd (x := h4 - e4) (y := B' + e5) (a := 9999) (b := 1073741824 * 256) (by omega) (by omega) (by omega) (by omega)
              have hP2 := mul_bd (x := h4 - e4) (y := M + q5 - (B' + e5)) (a := 9999) (b := 1073741824 * 256) (by omega) (by omega) (by omega) (by omega)
              obtain ⟨hP1a, hP1b⟩ := hP1
              obtain ⟨hP2a, hP2b⟩ := hP2
              obtain ⟨hbd1, hbd2⟩ := hbd
              go_upto_region 18 with ((with_reducible refine (HQE.out _ H9.out.1.tb).mono ?_); rintro e5 w7 ⟨rfl, hb7⟩; have H10 := Aside0.mk (And.intro (H9.out.1.below hb7) (H9.out.2.below hb7)); clear hb7 H9)
              go_upto_region 19 with ((with_reducible refine (HQE.out _ H10.out.1.tb).mono ?_); rintro e5 w8 ⟨rfl, hb7⟩; have H11 := Aside0.mk (And.intro (H10.out.1.below hb7) (H10.out.2.below hb7)); clear hb7 H10)
              go_upto_region 20 with (first | ((with_reducible refine (HQG.out _ H11.out.1.tb).mono ?_); rintro e5 w9 ⟨rfl, hb7⟩; have H12 := Aside0.mk (And.intro (H11.out.1.below hb7) (H11.out.2.below hb7)); clear hb7 H11) | ((with_reducible refine (HQE.out _ H12.out.1.tb).mono ?_); rintro e5 w10 ⟨rfl, hb7⟩; have H13 := Aside0.mk (And.intro (H12.out.1.below hb7) (H12.out.2.below hb7)); clear hb7 H12))
              go_wp2_with fail
              go_roundw
              case rel =>
                refine ⟨e + 1, B' + e5, C' + ((h4 - e4) * (B' + e5) - (h4 - e4) * (M + q5 - (B' + e5))), by go_num, by go_num, by go_num, by omega, hed1, by omega, by omega, by omega, by omega, ⟨HBE.out, ?_, fun a ha => ?_⟩, H13⟩
                · rw [← HF5.out, HST.out]; omega
                · rcases (show a < e ∨ a = e by omega) with h | rfl
                  · exact HY.out.2.2 a h
                  · rw [← HBE.out, ← HM1.out]; exact hcond
              case measure => simp [intOf]; omega
            · have hmed : med (sF fs ord) i (d + 1) = e := med_one HS.out (by omega) (by rw [← HN.out]; omega) (by omega) HY.out.2.2 (by rw [← HBE.out, ← HM1.out]; omega)
              have hcn : cen (sF fs ord) i (d + 1) = e4 := by unfold cen; rw [hmed, ← HF4.out]
              have HCN := Aside0.mk (And.intro hmed hcn); clear hmed hcn
              have hidx : i + d + 1 < n + 1 := by omega
              go_upto_region 22 with ((with_reducible refine (HQE.out _ H9.out.1.tb).mono ?_); rintro e5 w7 ⟨rfl, hb7⟩; have H10 := Aside0.mk (And.intro (H9.out.1.below hb7) (H9.out.2.below hb7)); clear hb7 H9)
              go_upto_region 23 with ((with_reducible refine (HQE.out _ H10.out.1.tb).mono ?_); rintro e5 w8 ⟨rfl, hb7⟩; have H11 := Aside0.mk (And.intro (H10.out.1.below hb7) (H10.out.2.below hb7)); clear hb7 H10; have fr := H11.out.1.e.free; have ce := H11.out.1.e.at_ (ints_get _ (show i + d + 1 < (erow (sF fs ord) n i d).length by rw [erow_length]; exact hidx)); have ce2 : w8.cell? ⟨r2, ((i : Int) + d + 1).toNat, none⟩ = some (.int .i64 ((erow (sF fs ord) n i d).getD (i + d + 1) 0)) := (by rw [show ((i : Int) + d + 1).toNat = i + d + 1 by omega]; exact ce))
              have h12 := H11.out.1.setE (i + d + 1) e4
              rw [show (erow (sF fs ord) n i d).set (i + d + 1) e4 = erow (sF fs ord) n i (d + 1) by rw [← HCN.out.2]; exact erow_set _ _ _ _ hlt] at h12
              generalize (w8.setCell ⟨r2, i + d + 1, none⟩ (.int .i64 e4)) = w9 at h12 ⊢
              clear fr ce ce2
              have z1 := h12.s.at_ (i := 1) rfl
              have fr := h12.c.free
              have ce := h12.c.at_ (ints_get _ (show i + d + 1 < (crow (sF fs ord) least p n i d).length by rw [crow_length]; exact hidx))
              have hC : C' = costD (sF fs ord) i (cen (sF fs ord) i (d + 1)) (d + 1) := by rw [HCN.out.2, HY.out.2.1, ← HF4.out]
              have HF := Aside0.mk (And.intro HM1.out (And.intro HY.out.1 (And.intro HCN.out.1.symm (And.intro hC HOK.out))))
              have H12 := Aside0.mk h12; clear h12 hC H11 HY HCN
              by_cases hle : least ≤ M + q5
              · have hco : pE (cO (sF fs ord) least p i (d + 1)) = C' := by
                  unfold cO
                  rw [if_pos ⟨HOK.out, by rw [← HM1.out]; exact hle⟩, ← HF.out.2.2.2.1]
                  rfl
                have HCO := Aside0.mk hco; clear hco
                have hled : decide (least ≤ M + q5) = true := decide_eq_true hle
                go_wp2_with fail
                go_roundw
                case rel =>
                  refine ⟨d + 1, e, M + q5, B', C', rfl, rfl, by go_num, rfl, by go_num, by omega, by omega, by omega, by omega, hB0', hB1', hC0', by omega, HF, ⟨?_⟩⟩
                  have h13 := H12.out.setC (i + d + 1) C'
                  rw [show (crow (sF fs ord) least p n i d).set (i + d + 1) C' = crow (sF fs ord) least p n i (d + 1) by rw [← HCO.out]; exact crow_set _ _ _ _ _ _ hlt] at h13
                  exact h13
                case measure => simp [intOf]; omega
              · have hco : cO (sF fs ord) least p i (d + 1) = none := by
                  unfold cO
                  rw [if_neg]
                  rintro ⟨_, h⟩
                  rw [← HM1.out] at h
                  exact hle h
                have HCO := Aside0.mk hco; clear hco
                have hled : decide (least ≤ M + q5) = false := decide_eq_false hle
                go_wp2_with fail
                go_roundw
                case rel => exact ⟨d + 1, e, M + q5, B', C', rfl, rfl, by go_num, rfl, by go_num, by omega, by omega, by omega, by omega, hB0', hB1', hC0', by omega, HF, ⟨by rw [← crow_none _ _ _ _ _ _ HCO.out]; exact H12.out⟩⟩
                case measure => simp [intOf]; omega
      · have hlti : ¬ (i : Int) + d < n := by omega
        go_wp2_with fail
        go_meet
        case rel => exact ⟨by rw [← crowF_of (d := d) (by omega) (fun h => absurd h hlt), ← erowF_of (d := d) (by omega) HX.out.2.2.2.2 (fun h => absurd h hlt)]; exact H7.out⟩
  case rest =>
  have h9 := hcut.out
  have HCV := Aside0.mk (HCE.out.1.below h9.b)
  have HEV := Aside0.mk (HCE.out.2.1.below h9.b)
  have c2 := h9.tb.t.at_ (i := 2) rfl
  have c3 := h9.tb.t.at_ (i := 3) rfl
  have c2d : ∀ i, wc.frozen? ⟨bt, i, none⟩ = false := h9.tb.t.free
  have hsz := h9.b.size
  have H9 := Aside0.mk h9
  clear h9 hcut
  go_upto_region 25 with fail
  have al : ∀ {a : Addr} {v : Value} {W : World}, W.cell? a = some v → ∀ o, (W.alloc o).cell? a = some v := fun {a v W} h o => (World.cell?_alloc_lt W o a (World.block_lt_of_cell? W a h)).trans h
  have c2a := al c2
  have c3a := al c3
  have c2b := fun o => al (c2a o)
  have c3b := fun o => al (c3a o)
  clear al c2d
  go_region_law
    (first
      | (refine step_own wc (fun _ => False) (by rfl) (.tmp 142) (.tmp 144) (by rfl) N cv cs (.slice (some ⟨r1, 0, none⟩) (n + 1) (n + 1)) _ (by rfl) (by rfl) (HCV.out.below (by repeat (first | exact Below.refl _ _ | apply below_alloc | apply below_drew))) (by first | exact h2_0 _ _ _ _ _ | exact h2_1 _ _ _ _ _ | exact h2d_0 _ _ _ _ _ | exact h2d_1 _ _ _ _ _ | exact heap_alloc_new _ _) (by rfl) (by omega) (by simp; omega) (Kp.of_below (by repeat (first | exact Below.refl _ _ | apply below_alloc | apply below_drew))) ?_; intro g1 cap1 w1' ho1 hk1 hat1 hlt1 hfar1; have Z1 := Aside0.mk (And.intro ho1 (And.intro hk1 (And.intro hat1 (And.intro hlt1 (And.intro hfar1 (H9.out.tb.t.kp hk1 (by intro h; rcases h with h | h; exact h; exact own_type_ne HCV.out H9.out.tb.t (by decide) h))))))); have e3 := Z1.out.2.2.2.2.2.at_ (i := 3) rfl; have e3a := fun o => (Z1.out.2.2.2.2.2.alloc o).at_ (i := 3) rfl; clear ho1 hk1 hat1 hlt1 hfar1)
      | (refine step_own wc (fun j => False ∨ cv.ownBlock = some j) (by rfl) (.tmp 149) (.tmp 151) (by rfl) N ev es (.slice (some ⟨r2, 0, none⟩) (n + 1) (n + 1)) _ (by rfl) (by rfl) (HEV.out.kp (by first | exact Z1.out.2.1 | exact Z1.out.2.1.alloc _) (fun j hj h => by rcases h with h | h; exact h; exact HCE.out.2.2 j h hj)) (by first | exact heap_alloc_new _ _ | exact (Z1.out.2.2.2.2.1 _ (by simp <;> omega) (fun e => by have := (HCV.out.lt e).2.1; omega)).trans (h2d_1 _ _ _ _ _) | exact (Z1.out.2.2.2.2.1 _ (by simp <;> omega) (fun e => by have := (HCV.out.lt e).2.1; omega)).trans (h2d_0 _ _ _ _ _) | exact (Z1.out.2.2.2.2.1 _ (by simp <;> omega) (fun e => by have := (HCV.out.lt e).2.1; omega)).trans (h2_1 _ _ _ _ _) | exact (Z1.out.2.2.2.2.1 _ (by simp <;> omega) (fun e => by have := (HCV.out.lt e).2.1; omega)).trans (h2_0 _ _ _ _ _)) (by rfl) (by omega) (by first | (have := Z1.out.2.1.size; omega) | (have := Z1.out.2.1.size; simp; omega)) (by first | exact Z1.out.2.1 | exact Z1.out.2.1.alloc _) ?_; intro g2 cap2 w2' ho2 hk2 hat2 hlt2 hfar2; have hne1 := row_ne Z1.out.2.2.1 HCE.out.2.2 HEV.out; have ho12 := own_after Z1.out.1 (by repeat (first | exact Below.refl _ _ | apply below_alloc)) hfar2 hne1; have hap := own_apart hat2 (by repeat (first | exact Below.refl _ _ | apply below_alloc)) Z1.out.2.2.2.1 hne1; have bt2 := H9.out.tb.t.kp hk2 (by intro h; rcases h with (h | h) | h; exact h; exact own_type_ne HCV.out H9.out.tb.t (by decide) h; exact own_type_ne HEV.out H9.out.tb.t (by decide) h); have cc2 := bt2.at_ (i := 2) rfl; have cc3 := bt2.at_ (i := 3) rfl; have ff2 := bt2.free; have Z2 := Aside0.mk (And.intro ho12 (And.intro ho2 (And.intro hk2 hap))); clear ho2 hk2 hat2 hlt2 hfar2 bt2 hne1 ho12 hap Z1 e3 e3a))
  all_goals go_wp2_with fail
  all_goals go_end0
  all_goals exact row_end H9.out HN.out HCV.out HEV.out Z2.out.1 Z2.out.2.1 Z2.out.2.2.1 Z2.out.2.2.2 HAN.out hNb
end Go.Proofs.Ythkfahkkcjagdaa
end

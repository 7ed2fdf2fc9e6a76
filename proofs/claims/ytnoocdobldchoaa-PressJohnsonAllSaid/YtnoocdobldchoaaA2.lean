/- What the two packings look at when they ask whether a thing fits. -/
import Derived.Test.YtnoocdobldchoaaProg
import Derived.Test.YtnoocdobldchoaaA1
import Derived.Test.YtnoocdobldchoaaWMore
import Derived.WalkKit
import Derived.KernelRfl
import Derived.Deep.QuietTactic
import Derived.BigQuiet
import Derived.BigRegion
import Derived.RegionTactic
import Derived.Lib.Hide
import Derived.Deep.DeepCutAuto
import Derived.Deep.CutBlock
import Derived.Outline
import Derived.Laws.EntriesVeiled
namespace Go.Proofs.Ytnoocdobldchoaa
open Go.RowKit Go.Proofs.YtnoocdobldchoaaW.PrintWords Go.Proofs.YtnoocdobldchoaaW.PrintMore Go.Proofs.YtnoocdobldchoaaW.PrintLast

/-! ### What the two packings look at when they ask whether a thing fits. -/
theorem PM.drewN {N bm bb bmo be bg bf g : Nat} {A : Option Addr} {c : Nat} {ms : List Int} {most each : Int} {w : World} {bx : List (Int × Int)} {gv : List Int}
  (h : PM N bm bb bmo be bg bf g A c ms most each w bx gv) (k : Nat) : PM N bm bb bmo be bg bf g A c ms most each (w.drewN k) bx gv := { h with }
theorem PM.start {N bm bb bmo be bg bf g : Nat} {A : Option Addr} {c : Nat} {ms : List Int} {most each : Int} {w : World} {bx : List (Int × Int)} {gv : List Int}
  (h : PM N bm bb bmo be bg bf g A c ms most each w bx gv) (_hN : N ≤ w.heap.size) (used limit : Int) :
   Calls Try.prog 41 #[.int .i64 ms.length, .int .i64 used, .int .i64 limit, .pointer (some ⟨bm,0,none⟩), .pointer (some ⟨bb,0,none⟩), .pointer (some ⟨bmo,0,none⟩), .pointer (some ⟨be,0,none⟩), .pointer (some ⟨bg,0,none⟩), .pointer (some ⟨bf,0,none⟩)] w
    fun e w' => e = .returned (.bool true) ∧ w' = w := by
  have hm := h.m.at_ (i := 0) rfl
  clear h
  go_enter Try.func41, Try.ntmps41
  go_wp2_with fail
  go_ret
  exact ⟨rfl, rfl⟩


def OKbx (most : Int) (i : Int) (bx : List (Int × Int)) : Prop := ∀ k, (0 ≤ (bx.getD k (0,0)).1 ∧ (bx.getD k (0,0)).1 ≤ most) ∧ 0 ≤ (bx.getD k (0,0)).2 ∧ (bx.getD k (0,0)).2 ≤ i
theorem OKbx.set {most i : Int} {bx : List (Int × Int)} (h : OKbx most i bx) (b : Nat) {x y : Int} (hx : 0 ≤ x ∧ x ≤ most) (hy : 0 ≤ y ∧ y ≤ i + 1) : OKbx most (i + 1) (bx.set b (x, y)) := by
  intro k
  have := h k
  simp only [List.getD_eq_getElem?_getD, List.getElem?_set] at *
  by_cases hk : b = k
  · rw [if_pos hk]
    by_cases hl : b < bx.length
    · rw [if_pos hl]; simp; omega
    · rw [if_neg hl]; subst hk; simp; omega
  · rw [if_neg hk]; omega

theorem set_back (bx : List (Int × Int)) (b : Nat) (x : Int × Int) (hb : b < bx.length) : (bx.set b x).set b ((bx.getD b (0, 0)).1, (bx.getD b (0, 0)).2) = bx := by
  rw [List.set_set, List.getD_eq_getElem?_getD, List.getElem?_eq_getElem hb]
  show bx.set b bx[b] = bx
  simp
def FitsRes (N bm bb bmo be bg bf g : Nat) (A : Option Addr) (c : Nat) (ms : List Int) (most each limit : Int) (rest : List Int) (i : Int) (used : Int) (bx : List (Int × Int)) (gv : List Int) (w : World) (r : Bool) (w' : World) : Prop :=
  Kp (fun i => i = bb ∨ i = g) w w' ∧
  match dfs most each limit rest used bx with
  | some l => r = true ∧ ∃ bx1, PM N bm bb bmo be bg bf g A c ms most each w' bx1 (gv.take i.toNat ++ l)
  | none => r = false ∧ ∃ gv1, PM N bm bb bmo be bg bf g A c ms most each w' bx gv1 ∧ gv1.take i.toNat = gv.take i.toNat
def FitsPost (N bm bb bmo be bg bf g : Nat) (A : Option Addr) (c : Nat) (ms : List Int) (most each limit : Int) (rest : List Int) (i : Int) (used : Int) (bx : List (Int × Int)) (gv : List Int) (w : World) (e : Ending) (w' : World) : Prop :=
  ∃ r, e = .returned (.bool r) ∧ FitsRes N bm bb bmo be bg bf g A c ms most each limit rest i used bx gv w r w'

def FitsInv (N bm bb bmo be bg bf g : Nat) (A : Option Addr) (c : Nat) (ms : List Int) (most each limit : Int) (m : Int) (rest : List Int) (i : Int) (used : Int) (bx : List (Int × Int)) (gv : List Int) (w : World) (b : Int) (wr : World) : Prop :=
  Kp (fun i => i = bb ∨ i = g) w wr ∧ (∃ gv1, PM N bm bb bmo be bg bf g A c ms most each wr bx gv1 ∧ gv1.take i.toNat = gv.take i.toNat) ∧ ∀ k : Nat, (k : Int) < b → try_ most each limit m rest used bx k = none

set_option maxHeartbeats 2000000 in
theorem fits_round {N bm bb bmo be bg bf g : Nat} {A : Option Addr} {c : Nat} {ms : List Int} {most each : Int} {w : World} {bx : List (Int × Int)} {gv : List Int}
  (h : PM N bm bb bmo be bg bf g A c ms most each w bx gv) (hN : N ≤ w.heap.size) (i used limit : Int) (hn : i < ms.length) (hi0 : 0 ≤ i)
  (h0 : 0 ≤ used) (h1 : used ≤ 11) (hui : used ≤ i) (hbx : OKbx most i bx) (hm0 : 0 ≤ rd ms i ∧ rd ms i ≤ 1073741824) (hmo : 0 ≤ most ∧ most ≤ 1073741824) (hi1 : i ≤ 100)
  (rest : List Int)
  (ih : ∀ (used : Int) (w : World) (bx : List (Int × Int)) (gv : List Int), PM N bm bb bmo be bg bf g A c ms most each w bx gv → N ≤ w.heap.size → OKbx most (i + 1) bx → 0 ≤ used → used ≤ 12 → used ≤ i + 1 →
   Calls Try.prog 41 #[.int .i64 (i + 1), .int .i64 used, .int .i64 limit, .pointer (some ⟨bm,0,none⟩), .pointer (some ⟨bb,0,none⟩), .pointer (some ⟨bmo,0,none⟩), .pointer (some ⟨be,0,none⟩), .pointer (some ⟨bg,0,none⟩), .pointer (some ⟨bf,0,none⟩)] w
    (FitsPost N bm bb bmo be bg bf g A c ms most each limit rest (i + 1) used bx gv w)) :
   Calls Try.prog 41 #[.int .i64 i, .int .i64 used, .int .i64 limit, .pointer (some ⟨bm,0,none⟩), .pointer (some ⟨bb,0,none⟩), .pointer (some ⟨bmo,0,none⟩), .pointer (some ⟨be,0,none⟩), .pointer (some ⟨bg,0,none⟩), .pointer (some ⟨bf,0,none⟩)] w
    (FitsPost N bm bb bmo be bg bf g A c ms most each limit (rd ms i :: rest) i used bx gv w) := by
  have hie : (i == (ms.length:Int)) = false := by simp; omega
  obtain ⟨bnd, hbnd⟩ : ∃ z : Int, z = mn (used + 1) limit := ⟨_, rfl⟩
  have hb12 : bnd ≤ 12 := by rw [hbnd]; unfold mn; split <;> omega
  have hbu : bnd ≤ used + 1 := by rw [hbnd]; unfold mn; split <;> omega
  have HB := Aside0.mk hbnd; clear hbnd
  have HN := Aside0.mk hn
  have hm := h.m.at_ (i := 0) rfl
  have H := Aside0.mk h; clear h
  have Hbx := Aside0.mk hbx; clear hbx
  have IH := Aside0.mk ih; clear ih
  obtain ⟨m, hmm⟩ : ∃ z, z = rd ms i := ⟨_, rfl⟩
  rw [← hmm] at hm0 ⊢
  have Hmm := Aside0.mk hmm; clear hmm
  go_enter Try.func41, Try.ntmps41
  go_upto_region 3 with fail
  go_cut [22, 23] from 24 (fun a b wr => a = .int .i64 bnd ∧ b = .int .i64 0 ∧ w = wr)
  case first =>
    have e1 := HB.out; unfold mn at e1
    go_wp2_with fail
    all_goals
      go_meet
      case rel => exact ⟨by rw [e1]; congr 1; omega, rfl, rfl⟩
  case rest =>
  obtain ⟨rfl, rfl, rfl⟩ := hcut
  go_wp2_with fail
  go_loopw [23] (fun v wr => ∃ b : Int, v = .int .i64 b ∧ 0 ≤ b ∧ b ≤ max 0 bnd ∧ FitsInv N bm bb bmo be bg bf g A c ms most each limit m rest i used bx gv w b wr) (fun v _ => (20 - intOf v).toNat)
  case atStart => exact ⟨0, rfl, by omega, by omega, Kp.refl _ _, ⟨_, H.out, rfl⟩, fun k hk => by omega⟩
  case round =>
    obtain ⟨b, rfl, hb0, hbm, hk, ⟨gv1, hp, hgt⟩, hno⟩ := hrel
    clear hm
    have hm := hp.m.at_ (i := 0) rfl
    have HG := Aside0.mk hgt; clear hgt
    have HNO := Aside0.mk hno; clear hno
    have HK := Aside0.mk hk; clear hk
    by_cases hlt : b < bnd
    · obtain ⟨ad, e1, g3⟩ := Kd.at_int hp.r i hi0 HN.out
      have hbl : b.toNat < bx.length := by rw [hp.bl]; omega
      have g4 := hp.b.at_ (flat_get0 bx b.toNat hbl)
      have g5 := hp.b.at_ (flat_get1 bx b.toNat hbl)
      have g6 := hp.mo.at_ (i := 0) rfl
      have g7 := hp.e.at_ (i := 0) rfl
      subst e1
      have hn' := HN.out
      obtain ⟨q1, hq1⟩ : ∃ z, z = (bx.getD b.toNat (0,0)).1 := ⟨_, rfl⟩
      obtain ⟨q2, hq2⟩ : ∃ z, z = (bx.getD b.toNat (0,0)).2 := ⟨_, rfl⟩
      have qb := Hbx.out b.toNat
      rw [← hq1, ← hq2] at qb; rw [← hq1] at g4; rw [← hq2] at g5; rw [← Hmm.out] at g3
      have Hq1 := Aside0.mk hq1; clear hq1
      have Hq2 := Aside0.mk hq2; clear hq2
      have HP := Aside0.mk hp; clear hp
      have hn1 : b.toNat < 12 := by omega
      go_upto_region 6 with fail
      go_cut [44] from 24 to 77 (fun a w1 => a = .bool (decide (most < q1 + m) || (q2 == each)) ∧ Aside0 (PM N bm bb bmo be bg bf g (some ad) c ms most each w1 bx gv1) ∧ Aside0 (Kp (fun i => i = bb ∨ i = g) w w1))
      case first =>
        by_cases hc : most < q1 + m
        · have hd : decide (most < q1 + m) = true := by simpa using hc
          go_quiet (fail)
          go_wp2_with fail
          go_meet
          case rel => exact ⟨by simp [hd], ⟨HP.out.drewN _⟩, ⟨HK.out.drewN _⟩⟩
        · have hd : decide (most < q1 + m) = false := by simpa using hc
          go_quiet (fail)
          go_wp2_with fail
          go_meet
          case rel => exact ⟨by simp [hd], ⟨HP.out.drewN _⟩, ⟨HK.out.drewN _⟩⟩
      case rest =>
      clear g3 g4 g5 g6 g7 hm HP HK
      obtain ⟨rfl, HP, HK⟩ := hcut
      by_cases hc : (decide (most < q1 + m) || (q2 == each)) = true
      · rw [hc]
        go_wp2_with fail
        go_roundw
        case rel =>
          refine ⟨b + 1, by go_num, by omega, by omega, HK.out, ⟨gv1, HP.out, HG.out⟩, fun k hk => ?_⟩
          by_cases hkb : (k : Int) < b
          · exact HNO.out k hkb
          · have : k = b.toNat := by omega
            subst this
            unfold try_
            rw [if_pos (by rw [← Hq1.out, ← Hq2.out]; simpa using hc)]
        case measure => simp [intOf]; omega
      · have hd : (decide (most < q1 + m) || (q2 == each)) = false := by simpa using hc
        rw [hd]
        have hd1 : q1 + m ≤ most := by simp at hd; omega
        have Hd := Aside0.mk hd; clear hd hc
        have g4 := HP.out.b.at_ (flat_get0 bx b.toNat hbl)
        have g5 := HP.out.b.at_ (flat_get1 bx b.toNat hbl)
        rw [← Hq1.out] at g4; rw [← Hq2.out] at g5
        go_wp2_with fail
        have b1 := Blk.new wc [.int .i64 q1, .int .i64 q2] 58
        have p2 := PM.kp HP.out (Nat.le_trans hN HK.out.size) (S := fun _ => False) ((Kp.refl _ wc).alloc (.cells #[.int .i64 q1, .int .i64 q2] 58)) (fun _ hf => hf.elim) (HP.out.b.alloc _) HP.out.bl (HP.out.g2.alloc _) HP.out.gl
        have k2 := HK.out.alloc (.cells #[.int .i64 q1, .int .i64 q2] 58)
        obtain ⟨bw, hbw⟩ : ∃ z, z = wc.heap.size := ⟨_, rfl⟩
        obtain ⟨w2, hw2⟩ : ∃ z, z = wc.alloc (.cells #[.int .i64 q1, .int .i64 q2] 58) := ⟨_, rfl⟩
        rw [← hbw] at b1 ⊢
        rw [← hw2] at b1 p2 k2 ⊢
        have hbw2 : w.heap.size ≤ bw := by rw [hbw]; exact HK.out.size
        clear hbw hw2 HP HK g4 g5 wc
        have HB1 := Aside0.mk b1; clear b1
        have HP2 := Aside0.mk p2; clear p2
        have HK2 := Aside0.mk k2; clear k2
        have hm := HP2.out.m.at_ (i := 0) rfl
        obtain ⟨ad', e1, g3⟩ := Kd.at_int HP2.out.r i hi0 HN.out
        cases e1
        rw [← Hmm.out] at g3
        have f1 := HB1.out.at_ (i := 0) rfl
        have f2 := HB1.out.at_ (i := 1) rfl
        have g4 := HP2.out.b.at_ (flat_get0 bx b.toNat hbl)
        have g5 := HP2.out.b.at_ (flat_get1 bx b.toNat hbl)
        rw [← Hq1.out] at g4; rw [← Hq2.out] at g5
        have fr := HP2.out.b.free
        go_cut [44] from 24 to 77 (fun _ w3 => ∃ k, w3 = ((w2.setCell ⟨bb, b.toNat * 2, none⟩ (.int .i64 (q1 + m))).setCell ⟨bb, b.toNat * 2 + 1, none⟩ (.int .i64 (q2 + 1))).drewN k)
        case first =>
          go_region
          go_wp2_with fail
          go_meet
          case rel => exact ⟨1, rfl⟩
        case rest =>
        obtain ⟨k3, hw3⟩ := hcut
        have p3 : PM N bm bb bmo be bg bf g (some ad) c ms most each wc (bx.set b.toNat (q1 + m, q2 + 1)) gv1 := by
          rw [hw3]
          refine PM.kp HP2.out (by have := HK2.out.size; omega) (S := fun i => i = bb ∨ i = g) (((Kp.refl _ w2).setCell (fun _ => .inl rfl) _).setCell (fun _ => .inl rfl) _ |>.drewN k3) (fun _ h => h) ?_ (by simpa using HP2.out.bl) (((HP2.out.g2.far (by rintro rfl; exact HP2.out.b.ne_of_type HP2.out.g2 (by decide) rfl) _).far (by rintro rfl; exact HP2.out.b.ne_of_type HP2.out.g2 (by decide) rfl) _).drewN k3) HP2.out.gl
          have := (((HP2.out.b.set (b.toNat * 2) (.int .i64 (q1 + m))).set (b.toNat * 2 + 1) (.int .i64 (q2 + 1))).drewN k3)
          rwa [flat_set bx _ _ _ hbl] at this
        have k3' : Kp (fun i => i = bb ∨ i = g) w wc := by
          rw [hw3]
          exact ((HK2.out.setCell (fun _ => .inl rfl) _).setCell (fun _ => .inl rfl) _).drewN k3
        have b3 : Blk wc bw [.int .i64 q1, .int .i64 q2] 58 := by
          rw [hw3]
          exact ((HB1.out.far (HB1.out.ne_of_type HP2.out.b (by decide)) _).far (HB1.out.ne_of_type HP2.out.b (by decide)) _).drewN k3
        clear hw3 hm g3 f1 f2 g4 g5 fr HB1 HP2 HK2 w2
        have HP3 := Aside0.mk p3; clear p3
        have HK3 := Aside0.mk k3'; clear k3'
        have HB3 := Aside0.mk b3; clear b3
        have hil : i.toNat < gv1.length := by rw [HP3.out.gl]; have := HN.out; omega
        have f1 := HP3.out.g1.at_ (i := 0) rfl
        have f2 := HP3.out.g2.at_ (ints_get gv1 hil)
        have f3 := HP3.out.g2.free i.toNat
        have f4 := HP3.out.f.at_ (i := 0) rfl
        go_upto_region 10 with fail
        have p4 : PM N bm bb bmo be bg bf g (some ad) c ms most each (wc.setCell ⟨g, i.toNat, none⟩ (.int .i64 b)) (bx.set b.toNat (q1 + m, q2 + 1)) (gv1.set i.toNat b) := by
          refine PM.kp HP3.out (by have := HK3.out.size; omega) (S := fun i => i = bb ∨ i = g) ((Kp.refl _ wc).setCell (fun _ => .inr rfl) _) (fun _ h => h) (HP3.out.b.far (HP3.out.b.ne_of_type HP3.out.g2 (by decide)) _) (by simpa using HP3.out.bl) ?_ (by simpa using HP3.out.gl)
          have := HP3.out.g2.set i.toNat (.int .i64 b)
          rwa [ints_set] at this
        have k4 := HK3.out.setCell (p := ⟨g, i.toNat, none⟩) (fun _ => .inr rfl) (.int .i64 b)
        have b4 := HB3.out.far (p := ⟨g, i.toNat, none⟩) (HB3.out.ne_of_type HP3.out.g2 (by decide)) (.int .i64 b)
        obtain ⟨w4, hw4⟩ : ∃ z, z = wc.setCell ⟨g, i.toNat, none⟩ (.int .i64 b) := ⟨_, rfl⟩
        rw [← hw4] at p4 k4 b4 ⊢
        have g1l : (gv1.set i.toNat b).take (i + 1).toNat = gv.take i.toNat ++ [b] := by
          rw [← HG.out, show (i + 1).toNat = i.toNat + 1 by omega, List.take_succ_eq_append_getElem (by simpa using hil)]
          simp [List.take_set_of_le]
        clear hw4 f1 f2 f3 f4 HP3 HK3 HB3 wc
        have HP4 := Aside0.mk p4; clear p4
        have HK4 := Aside0.mk k4; clear k4
        have HB4 := Aside0.mk b4; clear b4
        have HG1 := Aside0.mk g1l; clear g1l
        have f4 := HP4.out.f.at_ (i := 0) rfl
        have ob : OKbx most (i + 1) (bx.set b.toNat (q1 + m, q2 + 1)) := Hbx.out.set b.toNat (by omega) (by omega)
        have OB := Aside0.mk ob; clear ob
        go_cut [73] from 24 to 77 (fun a w5 => ∃ r, a = .bool r ∧ Aside0 (FitsRes N bm bb bmo be bg bf g (some ad) c ms most each limit rest (i + 1) (max used (b + 1)) (bx.set b.toNat (q1 + m, q2 + 1)) (gv1.set i.toNat b) w4 r w5))
        case first =>
          have hN4 : N ≤ w4.heap.size := by have := HK4.out.size; omega
          by_cases hbu' : b < used
          · go_wp2_with ((with_reducible refine (IH.out used w4 _ _ HP4.out hN4 OB.out h0 (by omega) (by omega)).mono ?_); rintro e5 w5 ⟨r5, rfl, hpost5⟩)
            go_meet
            case rel => exact ⟨r5, rfl, ⟨by rw [show max used (b + 1) = used by omega]; exact hpost5⟩⟩
          · go_wp2_with ((with_reducible refine (IH.out (b + 1) w4 _ _ HP4.out hN4 OB.out (by omega) (by omega) (by omega)).mono ?_); rintro e5 w5 ⟨r5, rfl, hpost5⟩)
            go_meet
            case rel => exact ⟨r5, rfl, ⟨by rw [show max used (b + 1) = b + 1 by omega]; exact hpost5⟩⟩
        case rest =>
        obtain ⟨r5, rfl, ⟨hk5, hr5⟩⟩ := hcut
        have hk6 := HK4.out.step hk5
        have hnb : bw ≠ bb ∧ bw ≠ g := ⟨HB4.out.ne_of_type HP4.out.b (by decide), HB4.out.ne_of_type HP4.out.g2 (by decide)⟩
        have b5 := HB4.out.kp hk5 (by omega)
        have HB5 := Aside0.mk b5; clear b5
        have HK6 := Aside0.mk hk6; clear hk6 hk5 HK4 HB4 f4 HP4 w4
        have htry : try_ most each limit m rest used bx b.toNat = (dfs most each limit rest (max used (b + 1)) (bx.set b.toNat (q1 + m, q2 + 1))).map (b :: ·) := by
          unfold try_
          rw [← Hq1.out, ← Hq2.out, if_neg (by have := Hd.out; simp at this; omega)]
          rw [show ((b.toNat : Nat) : Int) = b by omega]
        have HT := Aside0.mk htry; clear htry
        cases hd5 : dfs most each limit rest (max used (b + 1)) (bx.set b.toNat (q1 + m, q2 + 1)) with
        | some l5 =>
          simp only [hd5] at hr5
          obtain ⟨rfl, bx1, hp5⟩ := hr5
          have hfin : dfs most each limit (m :: rest) used bx = some (b :: l5) := by
            rw [dfs_cons]
            refine findSome_hit _ (b := b.toNat) (by have := HB.out; unfold mn at this; split at this <;> omega) (fun a ha => HNO.out a (by omega)) ?_
            rw [HT.out, hd5]; rfl
          have HF := Aside0.mk hfin; clear hfin hd5
          have HP5 := Aside0.mk hp5; clear hp5
          go_wp2_with fail
          go_ret
          refine ⟨true, rfl, HK6.out, ?_⟩
          rw [HF.out]
          refine ⟨rfl, bx1, ?_⟩
          have := HP5.out
          rw [HG1.out] at this
          simpa using this
        | none =>
          simp only [hd5] at hr5
          obtain ⟨rfl, gv5, hp5, hg5⟩ := hr5
          have HD5 := Aside0.mk hd5; clear hd5
          have HG5 := Aside0.mk hg5; clear hg5
          have HP5 := Aside0.mk hp5; clear hp5
          have f1 := HB5.out.at_ (i := 0) rfl
          have f2 := HB5.out.at_ (i := 1) rfl
          have hbl' : b.toNat < (bx.set b.toNat (q1 + m, q2 + 1)).length := by simpa using hbl
          have g4 := HP5.out.b.at_ (flat_get0 _ b.toNat hbl')
          have g5 := HP5.out.b.at_ (flat_get1 _ b.toNat hbl')
          have fr := HP5.out.b.free
          go_wp2_with fail
          go_roundw
          case rel =>
            refine ⟨b + 1, by go_num, by omega, by omega, ?_, ⟨gv5, ?_, ?_⟩, fun k hk => ?_⟩
            · exact (HK6.out.setCell (fun _ => .inl rfl) _).setCell (fun _ => .inl rfl) _
            · refine PM.kp HP5.out (by have := HK6.out.size; omega) (S := fun i => i = bb ∨ i = g) (((Kp.refl _ wc).setCell (fun _ => .inl rfl) _).setCell (fun _ => .inl rfl) _) (fun _ h => h) ?_ (by simpa using HP5.out.bl) ((HP5.out.g2.far (by rintro rfl; exact HP5.out.b.ne_of_type HP5.out.g2 (by decide) rfl) _).far (by rintro rfl; exact HP5.out.b.ne_of_type HP5.out.g2 (by decide) rfl) _) HP5.out.gl
              have := (HP5.out.b.set (b.toNat * 2) (.int .i64 q1)).set (b.toNat * 2 + 1) (.int .i64 q2)
              rw [flat_set _ _ _ _ hbl', Hq1.out, Hq2.out, set_back bx _ _ hbl] at this
              rw [Hq1.out, Hq2.out]
              exact this
            · have h5 := congrArg (List.take i.toNat) HG5.out
              rw [List.take_take, HG1.out, show min i.toNat (i + 1).toNat = i.toNat by omega] at h5
              rw [h5, List.take_append_of_le_length (by rw [← HG.out]; simp; omega), List.take_take, Nat.min_self]
            · by_cases hkb : (k : Int) < b
              · exact HNO.out k hkb
              · have : k = b.toNat := by omega
                subst this
                rw [HT.out, HD5.out]; rfl
          case measure => simp [intOf]; omega
    · go_wp2_with fail
      go_ret
      refine ⟨false, rfl, HK.out, ?_⟩
      have hfin : dfs most each limit (m :: rest) used bx = none := by
        rw [dfs_cons]
        exact findSome_miss _ (fun a ha => HNO.out a (by have := HB.out; unfold mn at this; split at this <;> omega))
      rw [hfin]
      exact ⟨rfl, gv1, hp, HG.out⟩

/-- The search: whatever is still to be put. -/
theorem fits_any {N bm bb bmo be bg bf g : Nat} {A : Option Addr} {c : Nat} {ms : List Int} {most each : Int} (hml : ms.length ≤ 12) (hmo : 0 ≤ most ∧ most ≤ 1073741824) (hms : ∀ i, 0 ≤ rd ms i ∧ rd ms i ≤ 1073741824) (limit : Int) :
    ∀ (n : Nat) (i used : Int) (w : World) (bx : List (Int × Int)) (gv : List Int), n = ms.length - i.toNat → 0 ≤ i → i ≤ ms.length → PM N bm bb bmo be bg bf g A c ms most each w bx gv → N ≤ w.heap.size → OKbx most i bx → 0 ≤ used → used ≤ i →
    Calls Try.prog 41 #[.int .i64 i, .int .i64 used, .int .i64 limit, .pointer (some ⟨bm,0,none⟩), .pointer (some ⟨bb,0,none⟩), .pointer (some ⟨bmo,0,none⟩), .pointer (some ⟨be,0,none⟩), .pointer (some ⟨bg,0,none⟩), .pointer (some ⟨bf,0,none⟩)] w
    (FitsPost N bm bb bmo be bg bf g A c ms most each limit (ms.drop i.toNat) i used bx gv w) := by
  intro n
  induction n with
  | zero =>
    intro i used w bx gv hn h0 h1 hp hN hb hu0 hu1
    have e : i = ms.length := by omega
    subst e
    refine (hp.start hN used limit).mono ?_
    rintro e w' ⟨rfl, rfl⟩
    refine ⟨true, rfl, Kp.refl _ _, ?_⟩
    simp only [Int.toNat_natCast, List.drop_length, dfs]
    refine ⟨trivial, bx, ?_⟩
    rw [← hp.gl]
    simpa using hp
  | succ n ih =>
    intro i used w bx gv hn h0 h1 hp hN hb hu0 hu1
    have hl : i.toNat < ms.length := by omega
    have e : ms.drop i.toNat = rd ms i :: ms.drop (i + 1).toNat := by
      rw [List.drop_eq_getElem_cons hl, show (i + 1).toNat = i.toNat + 1 by omega]
      simp [rd, List.getD_eq_getElem?_getD, List.getElem?_eq_getElem hl]
    rw [e]
    exact fits_round hp hN i used limit (by omega) h0 hu0 (by omega) hu1 hb (hms i) hmo (by omega) _ (fun used w bx gv hp hN hb h0 h1 hu => ih (i + 1) used w bx gv (by omega) (by omega) (by omega) hp hN hb h0 hu)

/-! ### What the program's packing answers. -/
def no12 : List (Int × Int) := List.replicate 12 (0, 0)
theorem no12_get (k : Nat) : no12.getD k (0, 0) = (0, 0) := by
  unfold no12
  rw [List.getD_eq_getElem?_getD, List.getElem?_replicate]
  split <;> rfl

def PackPost (ms : List Int) (most each : Int) (w : World) (e : Ending) (w' : World) : Prop :=
  Below w.heap.size w w' ∧
  if thingsE ms most each = 0 then ∃ (g n : Nat) (l : List Int), boundF ms most ≤ n ∧ (∀ k : Nat, boundF ms most ≤ k → k < n → dfs most each k ms 0 no12 = none) ∧ dfs most each n ms 0 no12 = some l ∧
    e = .returned (.tuple #[.slice (some ⟨g, 0, none⟩) ms.length ms.length, .int .i64 n, .int .i64 0]) ∧ Blk w' g (ints l) 3 ∧ l.length = ms.length
  else e = .returned (.tuple #[.slice none 0 0, .int .i64 0, .int .i64 (thingsE ms most each)])

theorem dfs_length (most each limit : Int) : ∀ (ms : List Int) (used : Int) (bx : List (Int × Int)) (l : List Int), dfs most each limit ms used bx = some l → l.length = ms.length := by
  intro ms
  induction ms with
  | nil => intro used bx l h; simp [dfs] at h; subst h; rfl
  | cons m ms ih =>
    intro used bx l h
    rw [dfs_cons] at h
    obtain ⟨b, _, hb⟩ := List.exists_of_findSome?_eq_some h
    unfold try_ at hb
    split at hb
    · exact absurd hb (by simp)
    · obtain ⟨l', h1, rfl⟩ := Option.map_eq_some_iff.1 hb
      simp [ih _ _ _ h1]


theorem made_ints (n : Nat) : madeCells #[.int .i64 0] n = (ints (List.replicate n 0)).toArray := by
  apply Array.toList_inj.1
  rw [toList_madeCells_one]
  simp [ints]

/-- The search's memory, as it is laid. -/
theorem pm_made (w5 : World) (bm bmo be : Nat) (A : Option Addr) (c : Nat) (ms : List Int) (most each : Int) (h1 : Blk w5 bm [.slice A ms.length c] 22) (h2 : Blk w5 bmo [.int .i64 most] 3) (h3 : Blk w5 be [.int .i64 each] 3) (hr : (Kd.int .i64).C w5 A ms.length ms) {N : Nat} (ra : 0 < ms.length → ∀ ad, A = some ad → ad.block < N) (hN : N ≤ w5.heap.size) :
    PM N bm w5.heap.size bmo be (w5.heap.size + 1 + 1) (w5.heap.size + 1 + 1 + 1) (w5.heap.size + 1) A c ms most each
      ((((w5.alloc (.cells #[.int .i64 0, .int .i64 0, .int .i64 0, .int .i64 0, .int .i64 0, .int .i64 0, .int .i64 0, .int .i64 0, .int .i64 0, .int .i64 0, .int .i64 0, .int .i64 0, .int .i64 0, .int .i64 0, .int .i64 0, .int .i64 0, .int .i64 0, .int .i64 0, .int .i64 0, .int .i64 0, .int .i64 0, .int .i64 0, .int .i64 0, .int .i64 0] 59)).alloc (.cells (madeCells #[.int .i64 0] ms.length) 3)).alloc (.cells #[.slice (some ⟨w5.heap.size + 1, 0, none⟩) ms.length ms.length] 22)).alloc (.cells #[.func (.func 41) #[] #[.pointer (some ⟨bm, 0, none⟩), .pointer (some ⟨w5.heap.size, 0, none⟩), .pointer (some ⟨bmo, 0, none⟩), .pointer (some ⟨be, 0, none⟩), .pointer (some ⟨w5.heap.size + 1 + 1, 0, none⟩), .pointer (some ⟨w5.heap.size + 1 + 1 + 1, 0, none⟩)]] 60)) no12 (List.replicate ms.length 0) := by
  rw [made_ints]
  have e := h2.lt
  have e3 := h3.lt
  exact {
    m := (((h1.alloc _).alloc _).alloc _).alloc _
    r := Kd.C_below hr (below_alloc (below_alloc (below_alloc (below_alloc (Below.refl _ _) _) _) _) _)
    ra := ra
    b := (((Blk.new w5 (flat no12) 59).alloc _).alloc _).alloc _
    bl := rfl
    mo := (((h2.alloc _).alloc _).alloc _).alloc _
    e := (((h3.alloc _).alloc _).alloc _).alloc _
    g1 := by
      have := (Blk.new ((w5.alloc (.cells (flat no12).toArray 59)).alloc (.cells (ints (List.replicate ms.length 0)).toArray 3)) [.slice (some ⟨w5.heap.size + 1, 0, none⟩) ms.length ms.length] 22)
      rw [World.size_alloc, World.size_alloc] at this
      exact this.alloc _
    g2 := by
      have := (Blk.new (w5.alloc (.cells (flat no12).toArray 59)) (ints (List.replicate ms.length 0)) 3)
      rw [World.size_alloc] at this
      exact (this.alloc _).alloc _
    gl := by simp
    f := by
      have := Blk.new (((w5.alloc (.cells (flat no12).toArray 59)).alloc (.cells (ints (List.replicate ms.length 0)).toArray 3)).alloc (.cells #[.slice (some ⟨w5.heap.size + 1, 0, none⟩) ms.length ms.length] 22)) [.func (.func 41) #[] #[.pointer (some ⟨bm, 0, none⟩), .pointer (some ⟨w5.heap.size, 0, none⟩), .pointer (some ⟨bmo, 0, none⟩), .pointer (some ⟨be, 0, none⟩), .pointer (some ⟨w5.heap.size + 1 + 1, 0, none⟩), .pointer (some ⟨w5.heap.size + 1 + 1 + 1, 0, none⟩)]] 60
      rw [World.size_alloc, World.size_alloc, World.size_alloc] at this
      exact this
    nb := hN
    ng := by omega
    gmo := by omega
    ge := by omega }

set_option maxHeartbeats 4000000 in
theorem pack_any (w : World) (A : Option Addr) (c : Nat) (ms : List Int) (most each : Int) (h : (Kd.int .i64).C w A ms.length ms)
    (hex : thingsE ms most each = 0 → ∃ n0 : Nat, boundF ms most ≤ n0 ∧ n0 ≤ 100 ∧ 0 ≤ boundF ms most ∧ dfs most each n0 ms 0 no12 ≠ none) :
    Calls Try.prog 17 #[.slice A ms.length c, .int .i64 most, .int .i64 each] w (PackPost ms most each w) := by
  have hl0 := Kd.C_max h
  have ra := C_lt h
  have hb3 := below_alloc (below_alloc (below_alloc (Below.refl w.heap.size w) (.cells #[.slice A ms.length c] 22)) (.cells #[.int .i64 most] 3)) (.cells #[.int .i64 each] 3)
  have B1 := ((Blk.new w [.slice A ms.length c] 22).alloc (.cells #[.int .i64 most] 3)).alloc (.cells #[.int .i64 each] 3)
  have B2 := (Blk.new (w.alloc (.cells #[.slice A ms.length c] 22)) [.int .i64 most] 3).alloc (.cells #[.int .i64 each] 3)
  have B3 := Blk.new ((w.alloc (.cells #[.slice A ms.length c] 22)).alloc (.cells #[.int .i64 most] 3)) [.int .i64 each] 3
  rw [World.size_alloc] at B2
  rw [World.size_alloc, World.size_alloc] at B3
  have hth := things_any _ A c ms most each (Kd.C_below h hb3)
  obtain ⟨w3, hw3⟩ : ∃ z, z = ((w.alloc (.cells #[.slice A ms.length c] 22)).alloc (.cells #[.int .i64 most] 3)).alloc (.cells #[.int .i64 each] 3) := ⟨_, rfl⟩
  have hs3 : w3.heap.size = w.heap.size + 1 + 1 + 1 := by rw [hw3]; simp
  rw [← hw3] at B1 B2 B3 hb3 hth
  have HTH := Aside0.mk hth; clear hth
  have HW3 := Aside0.mk hw3; clear hw3
  have HB3 := Aside0.mk hb3; clear hb3
  have HS3 := Aside0.mk hs3; clear hs3
  have Q1 := Aside0.mk B1; clear B1
  have Q2 := Aside0.mk B2; clear B2
  have Q3 := Aside0.mk B3; clear B3
  have HEX := Aside0.mk hex; clear hex
  have HR := Aside0.mk h; clear h
  obtain ⟨e0, he0⟩ : ∃ z, z = thingsE ms most each := ⟨_, rfl⟩
  have HE := Aside0.mk he0; clear he0
  go_enter Try.func17, Try.ntmps17
  go_upto_region 2 with (first | (rw [← HW3.out]; (with_reducible refine HTH.out.mono ?_); rintro e5 w5 ⟨rfl, hb5⟩; rw [← HE.out]))
  by_cases hz : e0 = 0
  · obtain ⟨hms, ⟨hm0, hm1⟩, hec, hle⟩ := MOK.of_E (HE.out.symm.trans hz)
    obtain ⟨n0, hn0, hn1, hn2, hn3⟩ := HEX.out (HE.out.symm.trans hz)
    subst hz
    have hml := hms.1
    have HMS := Aside0.mk hms; clear hms
    have HN3 := Aside0.mk hn3; clear hn3 HEX
    have HLE := Aside0.mk hle; clear hle
    have mk1 := print_make (P := Try.prog) 22 3 .i64 8 Try.underlying22 info3 (by decide) ms.length (by omega)
    have R1 := Aside0.mk (Q1.out.below hb5)
    have R2 := Aside0.mk (Q2.out.below hb5)
    have R3 := Aside0.mk (Q3.out.below hb5)
    have HB5 := Aside0.mk (HB3.out.trans (hb5.mono (by rw [HS3.out]; omega)))
    have hs5 : w.heap.size + 2 < w5.heap.size := by have := hb5.size; rw [HS3.out] at this; omega
    clear hb5 Q1 Q2 Q3 HB3 HS3 HW3 HTH
    have l1 : w.heap.size < w5.heap.size := by omega
    have l2 : w.heap.size + 1 < w5.heap.size := by omega
    have c1 := R1.out.at_ (i := 0) rfl
    have c2 := R2.out.at_ (i := 0) rfl
    go_upto_region 8 with fail
    clear mk1
    have K := Aside0.mk (pm_made w5 w.heap.size (w.heap.size + 1) (w.heap.size + 1 + 1) A c ms most each R1.out R2.out R3.out (Kd.C_below HR.out HB5.out) ra (by omega))
    generalize hw8 : (((w5.alloc (.cells #[.int .i64 0, .int .i64 0, .int .i64 0, .int .i64 0, .int .i64 0, .int .i64 0, .int .i64 0, .int .i64 0, .int .i64 0, .int .i64 0, .int .i64 0, .int .i64 0, .int .i64 0, .int .i64 0, .int .i64 0, .int .i64 0, .int .i64 0, .int .i64 0, .int .i64 0, .int .i64 0, .int .i64 0, .int .i64 0, .int .i64 0, .int .i64 0] 59)).alloc (.cells (madeCells #[.int .i64 0] ms.length) 3)).alloc (.cells #[.slice (some ⟨w5.heap.size + 1, 0, none⟩) ms.length ms.length] 22)).alloc (.cells #[.func (.func 41) #[] #[.pointer (some ⟨w.heap.size, 0, none⟩), .pointer (some ⟨w5.heap.size, 0, none⟩), .pointer (some ⟨w.heap.size + 1, 0, none⟩), .pointer (some ⟨w.heap.size + 1 + 1, 0, none⟩), .pointer (some ⟨w5.heap.size + 1 + 1, 0, none⟩), .pointer (some ⟨w5.heap.size + 1 + 1 + 1, 0, none⟩)]] 60) = w8 at *
    have B8 : Below w.heap.size w w8 := by
      rw [← hw8]
      exact below_alloc (below_alloc (below_alloc (below_alloc HB5.out _) _) _) _
    have g8 : w5.heap.size + 1 < w8.heap.size := by rw [← hw8]; simp
    clear hw8 R1 R2 R3 c1 c2
    obtain ⟨b0, hb0⟩ : ∃ z, z = boundF ms most := ⟨_, rfl⟩
    have hbnd := Aside0.mk (bound_any w8 A c ms most K.out.r HMS.out hm0 hm1)
    rw [← hb0] at hbnd hn0 hn2
    have HB0 := Aside0.mk hb0; clear hb0
    have c1 := K.out.m.at_ (i := 0) rfl
    have c2 := K.out.mo.at_ (i := 0) rfl
    have B8' := Aside0.mk B8; clear B8
    go_cut [3, 4, 5, 10, 11, 12, 13] from 14 (fun a3 a4 a5 a10 a11 a12 a13 w9 => ∃ N bm bb bmo be bg bf g : Nat, a3 = .pointer (some ⟨bm, 0, none⟩) ∧ a4 = .pointer (some ⟨bmo, 0, none⟩) ∧ a5 = .pointer (some ⟨be, 0, none⟩) ∧ a10 = .pointer (some ⟨bb, 0, none⟩) ∧ a11 = .pointer (some ⟨bg, 0, none⟩) ∧ a12 = .pointer (some ⟨bf, 0, none⟩) ∧ a13 = .int .i64 b0 ∧ Aside0 (N = w.heap.size ∧ N < g ∧ N < bb) ∧ N ≤ w9.heap.size ∧ Aside0 (PM N bm bb bmo be bg bf g A c ms most each w9 no12 (List.replicate ms.length 0)) ∧ Aside0 (Below w.heap.size w w9))
    case first =>
      go_wp2_with (first | ((with_reducible refine hbnd.out.mono ?_); rintro e9 w9 ⟨rfl, hb9⟩))
      go_meet
      case rel =>
        refine ⟨w.heap.size, w.heap.size, w5.heap.size, w.heap.size + 1, w.heap.size + 1 + 1, w5.heap.size + 1 + 1, w5.heap.size + 1 + 1 + 1, w5.heap.size + 1, rfl, rfl, rfl, rfl, rfl, rfl, rfl, ⟨rfl, by omega, by omega⟩, by have := hb9.size; omega, ⟨?_⟩, ⟨B8'.out.trans (hb9.mono (by omega))⟩⟩
        exact K.out.kp (by omega) (S := fun _ => False) (Kp.of_below hb9) (fun _ h => h.elim) (K.out.b.below hb9) K.out.bl (K.out.g2.below hb9) K.out.gl
    case rest =>
    clear K B8' c1 c2 hs5 l1 l2 g8 HB5 hbnd w5 w8
    obtain ⟨N, bm, bb, bmo, be, bg, bf, g, rfl, rfl, rfl, rfl, rfl, rfl, rfl, HGW, n9, K9, B9⟩ := hcut
    have hrd : ∀ i : Int, 0 ≤ rd ms i ∧ rd ms i ≤ 1073741824 := by
      intro i
      by_cases hi : i.toNat < ms.length
      · have := HMS.out.2 i.toNat hi
        unfold rd; omega
      · unfold rd; rw [List.getD_eq_getElem?_getD, List.getElem?_eq_none (by omega)]; simp
    have HRD := Aside0.mk hrd; clear hrd
    have hok : OKbx most 0 no12 := fun k => by rw [no12_get]; simp; omega
    have HOK := Aside0.mk hok; clear hok
    go_wp2_with fail
    go_loopw [13] (fun v wr => ∃ n : Nat, v = .int .i64 n ∧ b0 ≤ n ∧ n ≤ n0 ∧ N ≤ wr.heap.size ∧ (∃ gv, Aside0 (PM N bm bb bmo be bg bf g A c ms most each wr no12 gv)) ∧ Aside0 (Below w.heap.size w wr) ∧ Aside0 (∀ k : Nat, b0 ≤ k → k < n → dfs most each k ms 0 no12 = none)) (fun v _ => n0 + 1 - (intOf v).toNat)
    case atStart => exact ⟨b0.toNat, by congr 1; omega, by omega, by omega, n9, ⟨_, K9⟩, B9, ⟨fun k h1 h2 => by omega⟩⟩
    case round =>
      obtain ⟨n, rfl, hnb, hnn, hNr, ⟨gv, hp⟩, hbe', hno⟩ := hrel
      have hf := hp.out.f.at_ (i := 0) rfl
      have hg1 := hp.out.g1.at_ (i := 0) rfl
      have hcall := Aside0.mk (fits_any hml ⟨by omega, hm1⟩ HRD.out (n : Int) _ 0 0 wr no12 gv rfl (by omega) (by omega) hp.out hNr HOK.out (by omega) (by omega))
      go_upto_region 10 with fail
      go_cut [32] from 28 to 34 (fun a w5 => ∃ r, a = .bool r ∧ Aside0 (FitsRes N bm bb bmo be bg bf g A c ms most each n (ms.drop (0 : Int).toNat) 0 0 no12 gv wr r w5))
      case first =>
        go_wp2_with ((with_reducible refine hcall.out.mono ?_); rintro e5 w5 ⟨r5, rfl, hpost5⟩)
        go_meet
        case rel => exact ⟨r5, rfl, ⟨hpost5⟩⟩
      case rest =>
      obtain ⟨r5, rfl, ⟨hk5, hr5⟩⟩ := hcut
      have hb5 : Below w.heap.size w wc := ((Kp.of_below hbe'.out : Kp (fun i => i = bb ∨ i = g) w wr).step hk5).below_of (fun i hi => by have := HGW.out; omega)
      have n5 : N ≤ wc.heap.size := by have := hk5.size; omega
      have HB5 := Aside0.mk hb5; clear hb5 hk5 hbe' hcall
      have hdr : ms.drop (0 : Int).toNat = ms := rfl
      rw [hdr] at hr5
      clear hdr
      cases hd5 : dfs most each n ms 0 no12 with
      | some l5 =>
        simp only [hd5] at hr5
        obtain ⟨rfl, bx1, hp5⟩ := hr5
        have hll := dfs_length _ _ _ _ _ _ _ hd5
        have HD5 := Aside0.mk hd5; clear hd5
        have hg5 := hp5.g2
        rw [show gv.take (0 : Int).toNat ++ l5 = l5 from rfl] at hg5
        have hg1 := hp5.g1.at_ (i := 0) rfl
        have HG5 := Aside0.mk hg5; clear hg5 hp5 hf hp
        have HLL := Aside0.mk hll; clear hll
        go_wp2_with fail
        refine bodyPost_ret (v := .tuple #[.slice (some ⟨g, 0, none⟩) ms.length ms.length, .int .i64 n, .int .i64 0]) (by simp [results, Try.results17, go_sem]) rfl ?_
        refine ⟨HB5.out, ?_⟩
        rw [if_pos HE.out.symm]
        exact ⟨g, n, l5, by rw [← HB0.out]; exact hnb, fun k h1 h2 => hno.out k (by rw [HB0.out]; exact h1) h2, HD5.out, rfl, HG5.out, HLL.out⟩
      | none =>
        simp only [hd5] at hr5
        obtain ⟨rfl, gv1, hp5, _⟩ := hr5
        have hlt : n < n0 := by
          rcases Nat.lt_or_ge n n0 with h1 | h1
          · exact h1
          · have : n = n0 := by omega
            subst this
            exact absurd hd5 HN3.out
        have HD5 := Aside0.mk hd5; clear hd5
        have HP5 := Aside0.mk hp5; clear hp5 hf hg1 hp
        go_wp2_with fail
        go_roundw
        case rel =>
          refine ⟨n + 1, by go_num, by omega, by omega, n5, ⟨gv1, HP5⟩, HB5, ⟨fun k h1 h2 => ?_⟩⟩
          by_cases hkn : k < n
          · exact hno.out k h1 hkn
          · have : k = n := by omega
            subst this
            exact HD5.out
        case measure => simp [intOf]; omega
  · have hzb : (e0 != 0) = true := by simp [hz]
    have HB5 := Aside0.mk (HB3.out.trans (hb5.mono (by rw [HS3.out]; omega)))
    clear hb5
    go_wp2_with fail
    refine bodyPost_ret (v := .tuple #[.slice none 0 0, .int .i64 0, .int .i64 e0]) (by simp [results, Try.results17, go_sem]) rfl ?_
    exact ⟨HB5.out, by rw [← HE.out, if_neg hz]⟩

end Go.Proofs.Ytnoocdobldchoaa

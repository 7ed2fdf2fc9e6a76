/- What ClassingEases answers: its walk. -/
import Derived.Test.YthkfahkkcjagdaaE1
import Derived.Test.YthkfahkkcjagdaaD2
import Derived.Deep.DeepCutAuto
namespace Go.Proofs.Ythkfahkkcjagdaa
open Go.RowKit Go.Proofs.YthkfahkkcjagdaaW.PrintWords Go.Proofs.YthkfahkkcjagdaaW.PrintMore Go.Proofs.YthkfahkkcjagdaaW.PrintLast
attribute [local go_sem] max2_int min2_int

theorem few_any (w : World) (A : Option Addr) (n c : Nat) (_ : n ≤ 9223372036854775807) : Calls Try.prog 17 #[.slice A n c] w fun e w' => e = .returned (.bool (decide ((n : Int) ≤ 140))) ∧ w = w' := by
  go_enter Try.func17, Try.ntmps17
  go_wp2_with fail
  go_ret
  exact ⟨rfl, rfl⟩
/-- What Lines answers, in short: an error or a cost; and where it looks. -/
theorem lines_short (w : World) (A : Option Addr) (c : Nat) (fs : List Fl) (h : kF.C w A fs.length fs) (hk : KOK fs) (l least p : Int) :
    Calls Try.prog 19 #[.slice A fs.length c, .agg #[.int .i64 l, .int .i64 least, .int .i64 p]] w fun e w' => ∃ (v : Value) (k x : Int), e = .returned (.tuple #[v, .int .i64 k, .int .i64 x]) ∧ Below w.heap.size w w' ∧
      (x = 0 → errE fs l least p = 0 ∧ k = bestF (sF fs (ordF fs)) least p fs.length (bestK (sF fs (ordF fs)) least p fs.length l.toNat) ∧ k < 4611686018427387904) ∧
      (errE fs l least p = 0 → bestF (sF fs (ordF fs)) least p fs.length (bestK (sF fs (ordF fs)) least p fs.length l.toNat) < 4611686018427387904 → x = 0) := by
  refine (lines_any w A c fs h hk l least p).mono ?_
  rintro e w' ⟨h1, h2⟩
  by_cases hE : errE fs l least p = 0
  · rw [if_pos hE] at h2
    by_cases hb : bestF (sF fs (ordF fs)) least p fs.length (bestK (sF fs (ordF fs)) least p fs.length l.toNat) < 4611686018427387904
    · rw [if_pos hb] at h2
      obtain ⟨v, ls, rfl, _⟩ := h2
      exact ⟨v, _, 0, rfl, h1, fun _ => ⟨hE, rfl, hb⟩, fun _ _ => rfl⟩
    · rw [if_neg hb] at h2
      exact ⟨_, 0, 13, h2, h1, fun h => absurd h (by decide), fun _ h => absurd h hb⟩
  · rw [if_neg hE] at h2
    exact ⟨_, 0, _, h2, h1, fun h => absurd h hE, fun h => absurd h hE⟩
/-- The easier conditions under way, beside what came in. -/
def EZ (w : World) (b10 : Nat) (l least p m0 m1 m2 a b c : Int) (W : World) : Prop :=
  Blk W b10 [.int .i64 a, .int .i64 b, .int .i64 c] 24 ∧ Blk W w.heap.size [.int .i64 l, .int .i64 least, .int .i64 p] 24 ∧ Blk W (w.heap.size + 1) [.int .u8 m0, .int .u8 m1, .int .u8 m2] 40 ∧ Below w.heap.size w W ∧ w.heap.size + 2 ≤ b10
theorem EZ.set {w : World} {b10 : Nat} {l least p m0 m1 m2 a b c a' b' c' : Int} {W : World} (h : EZ w b10 l least p m0 m1 m2 a b c W) (k : Nat) (v : Value) (hv : ([.int .i64 a, .int .i64 b, .int .i64 c] : List Value).set k v = [.int .i64 a', .int .i64 b', .int .i64 c']) : EZ w b10 l least p m0 m1 m2 a' b' c' (W.setCell ⟨b10, k, none⟩ v) := by
  obtain ⟨h1, h2, h3, h4, h5⟩ := h
  refine ⟨?_, h2.far (by show w.heap.size ≠ b10; omega) _, h3.far (by show w.heap.size + 1 ≠ b10; omega) _, h4.setCell (by show w.heap.size ≤ b10; omega) _, h5⟩
  rw [← hv]; exact h1.set k v
theorem min_l (l m : Int) : (if l + m % 4 < 16 then l + m % 4 else 16) = min 16 (l + m % 4) := by split <;> omega

set_option maxHeartbeats 8000000 in
set_option maxRecDepth 100000 in
theorem eases_any (w : World) (A : Option Addr) (n c : Nat) (fs : List Fl) (hn : fs.length = n) (h : kF.C w A n fs) (hk : KOK fs) (l least p m0 m1 m2 : Int) (hm : (0 ≤ m0 ∧ m0 ≤ 255) ∧ (0 ≤ m1 ∧ m1 ≤ 255) ∧ 0 ≤ m2 ∧ m2 ≤ 255) :
    Calls Try.prog 4 #[.slice A n c, .agg #[.int .i64 l, .int .i64 least, .int .i64 p], .agg #[.int .u8 m0, .int .u8 m1, .int .u8 m2]] w fun e w' => e = .returned (.bool true) ∧ Below w.heap.size w w' := by
  have hmax := Kd.C_max h
  have b1 := below_alloc (Below.refl w.heap.size w) (.cells #[.int .i64 l, .int .i64 least, .int .i64 p] 24)
  have b2 := below_alloc b1 (.cells #[.int .u8 m0, .int .u8 m1, .int .u8 m2] 40)
  have q1 := (Blk.new w [.int .i64 l, .int .i64 least, .int .i64 p] 24).alloc (.cells #[.int .u8 m0, .int .u8 m1, .int .u8 m2] 40)
  have q2 := Blk.new (w.alloc (.cells #[.int .i64 l, .int .i64 least, .int .i64 p] 24)) [.int .u8 m0, .int .u8 m1, .int .u8 m2] 40
  have e1 : (w.alloc (.cells #[.int .i64 l, .int .i64 least, .int .i64 p] 24)).heap.size = w.heap.size + 1 := by simp
  rw [e1] at q2
  have s0 := q1.at_ (i := 0) rfl
  have s1 := q1.at_ (i := 1) rfl
  have s2 := q1.at_ (i := 2) rfl
  have HFW := Aside0.mk (fun W => few_any W A n c hmax)
  have HAL := Aside0.mk alive_any
  have hli := lines_short _ A c fs (by rw [hn]; exact Kd.C_below h b2) hk l least p
  rw [hn] at hli
  have HLI := Aside0.mk hli
  have H2 := Aside0.mk (And.intro b2 (And.intro q1 q2))
  have HC := Aside0.mk (And.intro h (And.intro hk hn))
  have HM := Aside0.mk hm
  clear h hk hn b1 b2 q1 q2 e1 hli hm
  by_cases h140 : (n : Int) ≤ 140
  · have hd : decide ((n : Int) ≤ 140) = true := decide_eq_true h140
    rw [hd] at HFW
    go_enter Try.func4, Try.ntmps4
    go_upto_region 4 with (first | ((with_reducible refine (HFW.out _).mono ?_); rintro e5 w5 ⟨rfl, rfl⟩) | ((with_reducible refine HLI.out.mono ?_); rintro e5 w5 ⟨v5, k5, x5, rfl, hb5, h51, h52⟩; have H5 := Aside0.mk (And.intro (below_step H2.out.1 hb5) (And.intro (H2.out.2.1.below hb5) (And.intro (H2.out.2.2.below hb5) (And.intro h51 h52)))); clear hb5 h51 h52))
    clear s0 s1 s2
    by_cases hx : x5 = 0
    · subst hx
      obtain ⟨hE, hk5, hlt⟩ := H5.out.2.2.2.1 rfl
      have hsp := errE_spec hE
      obtain ⟨⟨l1, l2⟩, ⟨sp1, sp2⟩, p1, p2⟩ := hsp
      obtain ⟨⟨m01, m02⟩, ⟨m11, m12⟩, m21, m22⟩ := HM.out
      have HK5 := Aside0.mk (And.intro hE (And.intro hk5 hlt)); clear hE hk5 hlt
      have t0 := H5.out.2.1.at_ (i := 0) rfl
      have t1 := H5.out.2.1.at_ (i := 1) rfl
      have t2 := H5.out.2.1.at_ (i := 2) rfl
      go_upto_region 7 with fail
      have al := below_alloc (Below.refl w5.heap.size w5) (.cells #[.int .i64 l, .int .i64 least, .int .i64 p] 24)
      have h6 := And.intro (Blk.new w5 [.int .i64 l, .int .i64 least, .int .i64 p] 24) (And.intro (H5.out.2.1.below al) (And.intro (H5.out.2.2.1.below al) (below_step H5.out.1 al)))
      generalize (w5.alloc (.cells #[.int .i64 l, .int .i64 least, .int .i64 p] 24)) = w6 at h6 ⊢
      obtain ⟨b10, hb10⟩ : ∃ z, z = w5.heap.size := ⟨_, rfl⟩
      rw [← hb10] at h6 ⊢
      have hb10' : w.heap.size + 2 ≤ b10 := by have := H5.out.2.2.1.lt; omega
      have h6e : EZ w b10 l least p m0 m1 m2 l least p w6 := ⟨h6.1, h6.2.1, h6.2.2.1, h6.2.2.2, hb10'⟩
      clear al t0 t1 t2 hb10 h6
      have H6 := Aside0.mk h6e; clear h6e
      go_cut [10] from 29 to 37 (fun v w7 => v = .pointer (some ⟨b10, 0, none⟩) ∧ Aside0 (EZ w b10 l least p m0 m1 m2 (min 16 (l + m0 % 4)) least p w7))
      case first =>
        have t0 := H6.out.2.1.at_ (i := 0) rfl
        have u0 := H6.out.2.2.1.at_ (i := 0) rfl
        have ff := H6.out.1.free
        have f0 := H6.out.1.at_ (i := 0) rfl
        have HS := Aside0.mk (H6.out.set (a' := min 16 (l + m0 % 4)) (b' := least) (c' := p) 0 (.int .i64 (min 16 (l + m0 % 4))) rfl)
        go_wp2_with fail
        go_meet
        case rel => exact ⟨rfl, HS⟩
      case rest =>
      obtain ⟨rfl, H7⟩ := hcut
      clear H6
      obtain ⟨a', ha'⟩ : ∃ z, z = min 16 (l + m0 % 4) := ⟨_, rfl⟩
      rw [← ha'] at H7
      have HA' := Aside0.mk ha'; clear ha'
      obtain ⟨w7, hw7⟩ : ∃ z, z = wc := ⟨_, rfl⟩
      rw [← hw7] at H7 ⊢
      clear hw7
      go_upto_region 8 with fail
      go_cut [10] from 38 to 45 (fun v w8 => v = .pointer (some ⟨b10, 0, none⟩) ∧ Aside0 (EZ w b10 l least p m0 m1 m2 a' (max 0 (least - m1)) p w8))
      case first =>
        have t1 := H7.out.2.1.at_ (i := 1) rfl
        have u1 := H7.out.2.2.1.at_ (i := 1) rfl
        have ff := H7.out.1.free
        have f1 := H7.out.1.at_ (i := 1) rfl
        have HS := Aside0.mk (H7.out.set (a' := a') (b' := max 0 (least - m1)) (c' := p) 1 (.int .i64 (max 0 (least - m1))) rfl)
        go_wp2_with fail
        go_meet
        case rel => exact ⟨rfl, HS⟩
      case rest =>
      obtain ⟨rfl, H8⟩ := hcut
      clear H7
      obtain ⟨b', hb'⟩ : ∃ z, z = max 0 (least - m1) := ⟨_, rfl⟩
      rw [← hb'] at H8
      have HB' := Aside0.mk hb'; clear hb'
      obtain ⟨w8, hw8⟩ : ∃ z, z = wc := ⟨_, rfl⟩
      rw [← hw8] at H8 ⊢
      clear hw8
      go_upto_region 9 with fail
      go_cut [10] from 46 to 53 (fun v w9 => v = .pointer (some ⟨b10, 0, none⟩) ∧ Aside0 (EZ w b10 l least p m0 m1 m2 a' b' (min 10000 (p + m2)) w9))
      case first =>
        have t2 := H8.out.2.1.at_ (i := 2) rfl
        have u2 := H8.out.2.2.1.at_ (i := 2) rfl
        have ff := H8.out.1.free
        have f2 := H8.out.1.at_ (i := 2) rfl
        have HS := Aside0.mk (H8.out.set (a' := a') (b' := b') (c' := min 10000 (p + m2)) 2 (.int .i64 (min 10000 (p + m2))) rfl)
        go_wp2_with fail
        go_meet
        case rel => exact ⟨rfl, HS⟩
      case rest =>
      obtain ⟨rfl, H9⟩ := hcut
      clear H8
      obtain ⟨c', hc'⟩ : ∃ z, z = min 10000 (p + m2) := ⟨_, rfl⟩
      rw [← hc'] at H9
      have HC' := Aside0.mk hc'; clear hc'
      obtain ⟨w9, hw9⟩ : ∃ z, z = wc := ⟨_, rfl⟩
      rw [← hw9] at H9 ⊢
      clear hw9
      have r0 := H9.out.1.at_ (i := 0) rfl
      have r1 := H9.out.1.at_ (i := 1) rfl
      have r2 := H9.out.1.at_ (i := 2) rfl
      have hli := lines_short w9 A c fs (by rw [HC.out.2.2]; exact Kd.C_below HC.out.1 H9.out.2.2.2.1) HC.out.2.1 a' b' c'
      rw [HC.out.2.2] at hli
      have HLJ := Aside0.mk hli; clear hli
      have hE2 : errE fs a' b' c' = 0 := errE_ease HK5.out.1 (by rw [HA'.out]; omega) (by rw [HB'.out]; omega) (by rw [HC'.out]; omega)
      have hbe := best_ease (s := sF fs (ordF fs)) (least := least) (p := p) (least' := b') (p' := c') (n := n) (L := l.toNat) (L' := a'.toNat) (by rw [HB'.out]; omega) (by rw [HC'.out]; omega) (by rw [HA'.out]; omega) (by rw [← HK5.out.2.1]; exact HK5.out.2.2)
      have HBE := Aside0.mk (And.intro hE2 hbe); clear hE2 hbe
      go_upto_region 11 with ((with_reducible refine HLJ.out.mono ?_); rintro e10 w10 ⟨v11, k12, x13, rfl, hb10, h101, h102⟩; have H10 := Aside0.mk (And.intro (below_step H9.out.2.2.2.1 hb10) (And.intro h101 h102)); clear hb10 h101 h102)
      have hx13 : x13 = 0 := H10.out.2.2 HBE.out.1 (by
        have h1 := HBE.out.2
        have h2 := HK5.out.2.2
        have h3 := HK5.out.2.1
        rw [h3] at h2
        exact Int.lt_of_le_of_lt h1 h2)
      have hk12 : k12 ≤ k5 := by
        have h1 := HBE.out.2
        have h3 := HK5.out.2.1
        have h4 := (H10.out.2.1 hx13).2.1
        rw [h3, h4]; exact h1
      subst hx13
      have dk : decide (k12 ≤ k5) = true := decide_eq_true hk12
      go_wp2_with ((with_reducible refine (HAL.out _).mono ?_); rintro e6 w6 ⟨rfl, hb6⟩; have HB6 := Aside0.mk (below_step H10.out.1 hb6); clear hb6)
      go_ret
      exact ⟨rfl, HB6.out⟩
    · have hz : (x5 != 0) = true := by simpa using hx
      go_wp2_with ((with_reducible refine (HAL.out _).mono ?_); rintro e6 w6 ⟨rfl, hb6⟩; have HB6 := Aside0.mk (below_step H5.out.1 hb6); clear hb6)
      go_ret
      exact ⟨rfl, HB6.out⟩
  · have hd : decide ((n : Int) ≤ 140) = false := decide_eq_false h140
    rw [hd] at HFW
    go_enter Try.func4, Try.ntmps4
    go_wp2_with (first | ((with_reducible refine (HFW.out _).mono ?_); rintro e5 w5 ⟨rfl, rfl⟩) | ((with_reducible refine (HAL.out _).mono ?_); rintro e6 w6 ⟨rfl, hb6⟩; have HB6 := Aside0.mk (below_step H2.out.1 hb6); clear hb6))
    go_ret
    exact ⟨rfl, HB6.out⟩
end Go.Proofs.Ythkfahkkcjagdaa

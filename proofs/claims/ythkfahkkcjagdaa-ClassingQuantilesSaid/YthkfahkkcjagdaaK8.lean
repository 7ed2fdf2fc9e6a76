/- The stable sort of up to 128 numbers: its walk. -/
import Derived.Test.YthkfahkkcjagdaaK7
namespace Go.Proofs.Ythkfahkkcjagdaa
open Go.RowKit Go.Proofs.YthkfahkkcjagdaaW.PrintWords Go.Proofs.YthkfahkkcjagdaaW.PrintMore Go.Proofs.YthkfahkkcjagdaaW.PrintLast

theorem int_eq {a b : Int} (h : a = b) : Value.int .i64 a = .int .i64 b := by rw [h]
def SBk (cf : Int → Int → Int) (g n B : Nat) (w W : World) : Prop := ∃ ys, ST cf g n w W ys ∧ ∀ i : Nat, B * i ≤ n → Sg cf n ys (B * i) (min (B * i + B) n)
theorem SBk.done {cf : Int → Int → Int} (hL : CmpLaw cf) {g n B : Nat} {w W : World} (h : SBk cf g n B w W) (hB : n ≤ B) : Kp (fun i => i = g) w W ∧ Blk W g (ints (srt cf (upto n))) 3 := by
  obtain ⟨ys, h1, h2⟩ := h
  have a := h2 0 (by omega)
  rw [Nat.mul_zero, Nat.zero_add, Nat.min_eq_right hB] at a
  have e : seg ys 0 n = ys := by unfold seg; rw [List.drop_zero, List.take_of_length_le (by rw [h1.len]; omega)]
  have p := a.1
  rw [e] at p
  have := srt_one hL (upto_pw n) p h1.p
  exact ⟨h1.k, by rw [← this]; exact h1.b⟩

set_option maxRecDepth 100000 in
set_option maxHeartbeats 8000000 in
theorem stable_any {k b g : Nat} {I : World → Prop} {cf : Int → Int → Int} {n : Nat} (hC : CmpC k b I cf (fun x => 0 ≤ x ∧ x < n) g) (hL : CmpLaw cf) (hn : n ≤ 128) (w : World) (hg : Blk w g (ints (upto n)) 3) (hI : I w) :
    Calls Try.prog 125 #[.slice (some ⟨g, 0, none⟩) n n, .int .i64 n, .func (.func k) #[] #[.pointer (some ⟨b, 0, none⟩)]] w
      fun e w' => e = .returned (.tuple #[]) ∧ Kp (fun i => i = g) w w' ∧ Blk w' g (ints (srt cf (upto n))) 3 := by
  have HC := Aside0.mk hC; clear hC
  have HL := Aside0.mk hL; clear hL
  have HI := Aside0.mk hI; clear hI
  have HG := Aside0.mk hg; clear hg
  go_enter Try.func125, Try.ntmps125
  go_wp2_with fail
  go_loopw [7, 8] (fun v7 v8 wr => ∃ t : Nat, v7 = .int .i64 (20 * (t : Int)) ∧ v8 = .int .i64 (20 * (t : Int) + 20) ∧ 20 * t ≤ n ∧ Aside0 (∃ ys, ST cf g n w wr ys ∧ (∀ i : Nat, i < t → Sg cf n ys (20 * i) (20 * i + 20)) ∧ ys.drop (20 * t) = (upto n).drop (20 * t))) (fun v _ _ => n - (intOf v).toNat)
  case atStart => exact ⟨0, rfl, rfl, by omega, ⟨upto n, ⟨Kp.refl _ _, HG.out, List.Perm.refl _⟩, fun i hi => by omega, rfl⟩⟩
  case round =>
    obtain ⟨t, rfl, rfl, ht, HT⟩ := hrel
    by_cases hb : 20 * t + 20 ≤ n
    · have hb1 : 20 * (t : Int) + 20 ≤ n := by omega
      obtain ⟨ys, h1, h2, h3⟩ := HT.out
      have hc := isort_step HC.out HL.out hn HI.out h1 (20 * t) (20 * t + 20) (by omega) hb h3
      rw [show ((20 * t : Nat) : Int) = 20 * (t : Int) by omega, show ((20 * t + 20 : Nat) : Int) = 20 * (t : Int) + 20 by omega] at hc
      have HCALL := Aside0.mk hc
      have HYS := Aside0.mk (And.intro h1.len (And.intro h2 h3))
      clear hc h1 h2 h3 HT
      go_wp2_with ((with_reducible refine HCALL.out.mono ?_); rintro e5 w5 ⟨rfl, hp5⟩; have H5 := Aside0.mk hp5; clear hp5)
      go_roundw
      case rel =>
        refine ⟨t + 1, int_eq (by omega), int_eq (by omega), by omega, ⟨?_⟩⟩
        obtain ⟨zs, g1, g2, g3, g4⟩ := H5.out
        obtain ⟨hyl, h2, h3⟩ := HYS.out
        have hl : zs.length = ys.length := by rw [g1.len, hyl]
        refine ⟨zs, g1, fun i hi => ?_, ?_⟩
        · rcases (show i < t ∨ i = t by omega) with h | rfl
          · exact (h2 i h).keep hl g2 g3 (.inl (by omega))
          · exact g4
        · rw [show 20 * (t + 1) = 20 * t + 20 by omega, g3]
          have := congrArg (List.drop 20) h3
          rwa [List.drop_drop, List.drop_drop] at this
      case measure => simp only [intOf]; omega
    · have hb1 : ¬ 20 * (t : Int) + 20 ≤ n := by omega
      have hbd : decide (20 * (t : Int) + 20 ≤ n) = false := decide_eq_false hb1
      obtain ⟨ys, h1, h2, h3⟩ := HT.out
      have hc := isort_step HC.out HL.out hn HI.out h1 (20 * t) n (by omega) (Nat.le_refl n) h3
      rw [show ((20 * t : Nat) : Int) = 20 * (t : Int) by omega] at hc
      have HCALL := Aside0.mk hc
      have HYS := Aside0.mk (And.intro h1.len (And.intro h2 h3))
      clear hc h1 h2 h3 HT
      go_wp2_with ((with_reducible refine HCALL.out.mono ?_); rintro e5 w5 ⟨rfl, hp5⟩; have H5 := Aside0.mk hp5; clear hp5)
      have HS : Aside0 (SBk cf g n 20 w w5) := ⟨by
        obtain ⟨zs, g1, g2, g3, g4⟩ := H5.out
        obtain ⟨hyl, h2, h3⟩ := HYS.out
        have hl : zs.length = ys.length := by rw [g1.len, hyl]
        refine ⟨zs, g1, fun i hi => ?_⟩
        rcases (show i < t ∨ i = t by omega) with h | rfl
        · rw [show min (20 * i + 20) n = 20 * i + 20 by omega]
          exact (h2 i h).keep hl g2 g3 (.inl (by omega))
        · rw [show min (20 * i + 20) n = n by omega]
          exact g4⟩
      clear HYS H5 HCALL hb hb1 hbd
      go_loopw [6] (fun v6 wr => 0 ≤ n ∧ ((v6 = .int .i64 20 ∧ Aside0 (SBk cf g n 20 w wr)) ∨ (v6 = .int .i64 40 ∧ Aside0 (SBk cf g n 40 w wr)) ∨ (v6 = .int .i64 80 ∧ Aside0 (SBk cf g n 80 w wr)) ∨ (v6 = .int .i64 160 ∧ Aside0 (SBk cf g n 160 w wr)))) (fun v _ => 200 - (intOf v).toNat)
      case atStart => exact ⟨by omega, .inl ⟨rfl, HS⟩⟩
      case round =>
       obtain ⟨_, hrel⟩ := hrel
       clear HS
       rcases hrel with ⟨rfl, HS⟩ | ⟨rfl, HS⟩ | ⟨rfl, HS⟩ | ⟨rfl, HS⟩
       · by_cases h20 : 20 < n
         · obtain ⟨wo, rfl⟩ : ∃ wo : World, wo = wr := ⟨_, rfl⟩
           have hd1 : decide ((20 : Int) < n) = true := decide_eq_true (by omega)
           go_wp2_with fail
           go_loopw [7, 8] (fun v7 v8 wr => ∃ t : Nat, v7 = .int .i64 (40 * (t : Int)) ∧ v8 = .int .i64 (40 * (t : Int) + 40) ∧ 40 * t ≤ n ∧ Aside0 (∃ ys, ST cf g n w wr ys ∧ (∀ i : Nat, i < t → Sg cf n ys (40 * i) (40 * i + 40)) ∧ ∀ j : Nat, 2 * t ≤ j → 20 * j ≤ n → Sg cf n ys (20 * j) (min (20 * j + 20) n))) (fun v _ _ => n - (intOf v).toNat)
           case atStart =>
             refine ⟨0, rfl, rfl, by omega, ⟨?_⟩⟩
             obtain ⟨ys, h1, h2⟩ := HS.out
             exact ⟨ys, h1, fun i hi => by omega, fun j _ hj => h2 j hj⟩
           case round =>
             obtain ⟨t, rfl, rfl, ht, HT⟩ := hrel
             by_cases hb : 40 * t + 40 ≤ n
             · have hb1 : 40 * (t : Int) + 40 ≤ n := by omega
               obtain ⟨ys, h1, h2, h3⟩ := HT.out
               have p1 := h3 (2 * t) (by omega) (by omega)
               have p2 := h3 (2 * t + 1) (by omega) (by omega)
               rw [show min (20 * (2 * t) + 20) n = 40 * t + 20 by omega, show 20 * (2 * t) = 40 * t by omega] at p1
               rw [show min (20 * (2 * t + 1) + 20) n = 40 * t + 40 by omega, show 20 * (2 * t + 1) = 40 * t + 20 by omega] at p2
               have hc := merge_step HC.out HL.out hn HI.out h1 (40 * t) (40 * t + 20) (40 * t + 40) (by omega) (by omega) hb p1 p2
               rw [show ((40 * t : Nat) : Int) = 40 * (t : Int) by omega, show ((40 * t + 20 : Nat) : Int) = 40 * (t : Int) + 20 by omega, show ((40 * t + 40 : Nat) : Int) = 40 * (t : Int) + 40 by omega] at hc
               have HCALL := Aside0.mk hc
               have HYS := Aside0.mk (And.intro h1.len (And.intro h2 h3))
               clear hc p1 p2 h1 h2 h3 HT HS
               go_wp2_with ((with_reducible refine HCALL.out.mono ?_); rintro e5 w5 ⟨rfl, hp5⟩; have H5 := Aside0.mk hp5; clear hp5)
               go_roundw
               case rel =>
                 refine ⟨t + 1, int_eq (by omega), int_eq (by omega), by omega, ⟨?_⟩⟩
                 obtain ⟨zs, g1, g2, g3, g4⟩ := H5.out
                 obtain ⟨hyl, h2, h3⟩ := HYS.out
                 have hl : zs.length = ys.length := by rw [g1.len, hyl]
                 refine ⟨zs, g1, fun i hi => ?_, fun j hj hjn => (h3 j (by omega) hjn).keep hl g2 g3 (.inr (by omega))⟩
                 rcases (show i < t ∨ i = t by omega) with h | rfl
                 · exact (h2 i h).keep hl g2 g3 (.inl (by omega))
                 · exact g4
               case measure => simp only [intOf]; omega
             · have hb1 : ¬ 40 * (t : Int) + 40 ≤ n := by omega
               have hbd : decide (40 * (t : Int) + 40 ≤ n) = false := decide_eq_false hb1
               by_cases hm : 40 * t + 20 < n
               · have hm1 : 40 * (t : Int) + 20 < n := by omega
                 have hmd : decide (40 * (t : Int) + 20 < n) = true := decide_eq_true hm1
                 obtain ⟨ys, h1, h2, h3⟩ := HT.out
                 have p1 := h3 (2 * t) (by omega) (by omega)
                 have p2 := h3 (2 * t + 1) (by omega) (by omega)
                 rw [show min (20 * (2 * t) + 20) n = 40 * t + 20 by omega, show 20 * (2 * t) = 40 * t by omega] at p1
                 rw [show min (20 * (2 * t + 1) + 20) n = n by omega, show 20 * (2 * t + 1) = 40 * t + 20 by omega] at p2
                 have hc := merge_step HC.out HL.out hn HI.out h1 (40 * t) (40 * t + 20) n (by omega) (by omega) (Nat.le_refl n) p1 p2
                 rw [show ((40 * t : Nat) : Int) = 40 * (t : Int) by omega, show ((40 * t + 20 : Nat) : Int) = 40 * (t : Int) + 20 by omega] at hc
                 have HCALL := Aside0.mk hc
                 have HYS := Aside0.mk (And.intro h1.len (And.intro h2 h3))
                 clear hc p1 p2 h1 h2 h3 HT HS
                 go_wp2_with ((with_reducible refine HCALL.out.mono ?_); rintro e5 w5 ⟨rfl, hp5⟩; have H5 := Aside0.mk hp5; clear hp5)
                 go_roundw
                 case rel =>
                   refine ⟨by omega, .inr (.inl ⟨rfl, ⟨?_⟩⟩)⟩
                   obtain ⟨zs, g1, g2, g3, g4⟩ := H5.out
                   obtain ⟨hyl, h2, h3⟩ := HYS.out
                   have hl : zs.length = ys.length := by rw [g1.len, hyl]
                   refine ⟨zs, g1, fun i hi => ?_⟩
                   rcases (show i < t ∨ i = t by omega) with h | rfl
                   · rw [show min (40 * i + 40) n = 40 * i + 40 by omega]
                     exact (h2 i h).keep hl g2 g3 (.inl (by omega))
                   · rw [show min (40 * i + 40) n = n by omega]
                     exact g4
                 case measure => simp only [intOf]; omega
               · have hm1 : ¬ 40 * (t : Int) + 20 < n := by omega
                 have hmd : decide (40 * (t : Int) + 20 < n) = false := decide_eq_false hm1
                 go_wp2_with fail
                 go_roundw
                 case rel =>
                   refine ⟨by omega, .inr (.inl ⟨rfl, ⟨?_⟩⟩)⟩
                   obtain ⟨ys, h1, h2, h3⟩ := HT.out
                   refine ⟨ys, h1, fun i hi => ?_⟩
                   rcases (show i < t ∨ i = t by omega) with h | rfl
                   · rw [show min (40 * i + 40) n = 40 * i + 40 by omega]
                     exact h2 i h
                   · have p1 := h3 (2 * i) (by omega) (by omega)
                     rw [show min (20 * (2 * i) + 20) n = n by omega, show 20 * (2 * i) = 40 * i by omega] at p1
                     rw [show min (40 * i + 40) n = n by omega]
                     exact p1
                 case measure => simp only [intOf]; omega
         · have hd1 : decide ((20 : Int) < n) = false := decide_eq_false (by omega)
           have HF := Aside0.mk (HS.out.done HL.out (by omega))
           go_wp2_with fail
           go_end0
           exact ⟨rfl, HF.out⟩
       · by_cases h20 : 40 < n
         · obtain ⟨wo, rfl⟩ : ∃ wo : World, wo = wr := ⟨_, rfl⟩
           have hd1 : decide ((40 : Int) < n) = true := decide_eq_true (by omega)
           go_wp2_with fail
           go_loopw [7, 8] (fun v7 v8 wr => ∃ t : Nat, v7 = .int .i64 (80 * (t : Int)) ∧ v8 = .int .i64 (80 * (t : Int) + 80) ∧ 80 * t ≤ n ∧ Aside0 (∃ ys, ST cf g n w wr ys ∧ (∀ i : Nat, i < t → Sg cf n ys (80 * i) (80 * i + 80)) ∧ ∀ j : Nat, 2 * t ≤ j → 40 * j ≤ n → Sg cf n ys (40 * j) (min (40 * j + 40) n))) (fun v _ _ => n - (intOf v).toNat)
           case atStart =>
             refine ⟨0, rfl, rfl, by omega, ⟨?_⟩⟩
             obtain ⟨ys, h1, h2⟩ := HS.out
             exact ⟨ys, h1, fun i hi => by omega, fun j _ hj => h2 j hj⟩
           case round =>
             obtain ⟨t, rfl, rfl, ht, HT⟩ := hrel
             by_cases hb : 80 * t + 80 ≤ n
             · have hb1 : 80 * (t : Int) + 80 ≤ n := by omega
               obtain ⟨ys, h1, h2, h3⟩ := HT.out
               have p1 := h3 (2 * t) (by omega) (by omega)
               have p2 := h3 (2 * t + 1) (by omega) (by omega)
               rw [show min (40 * (2 * t) + 40) n = 80 * t + 40 by omega, show 40 * (2 * t) = 80 * t by omega] at p1
               rw [show min (40 * (2 * t + 1) + 40) n = 80 * t + 80 by omega, show 40 * (2 * t + 1) = 80 * t + 40 by omega] at p2
               have hc := merge_step HC.out HL.out hn HI.out h1 (80 * t) (80 * t + 40) (80 * t + 80) (by omega) (by omega) hb p1 p2
               rw [show ((80 * t : Nat) : Int) = 80 * (t : Int) by omega, show ((80 * t + 40 : Nat) : Int) = 80 * (t : Int) + 40 by omega, show ((80 * t + 80 : Nat) : Int) = 80 * (t : Int) + 80 by omega] at hc
               have HCALL := Aside0.mk hc
               have HYS := Aside0.mk (And.intro h1.len (And.intro h2 h3))
               clear hc p1 p2 h1 h2 h3 HT HS
               go_wp2_with ((with_reducible refine HCALL.out.mono ?_); rintro e5 w5 ⟨rfl, hp5⟩; have H5 := Aside0.mk hp5; clear hp5)
               go_roundw
               case rel =>
                 refine ⟨t + 1, int_eq (by omega), int_eq (by omega), by omega, ⟨?_⟩⟩
                 obtain ⟨zs, g1, g2, g3, g4⟩ := H5.out
                 obtain ⟨hyl, h2, h3⟩ := HYS.out
                 have hl : zs.length = ys.length := by rw [g1.len, hyl]
                 refine ⟨zs, g1, fun i hi => ?_, fun j hj hjn => (h3 j (by omega) hjn).keep hl g2 g3 (.inr (by omega))⟩
                 rcases (show i < t ∨ i = t by omega) with h | rfl
                 · exact (h2 i h).keep hl g2 g3 (.inl (by omega))
                 · exact g4
               case measure => simp only [intOf]; omega
             · have hb1 : ¬ 80 * (t : Int) + 80 ≤ n := by omega
               have hbd : decide (80 * (t : Int) + 80 ≤ n) = false := decide_eq_false hb1
               by_cases hm : 80 * t + 40 < n
               · have hm1 : 80 * (t : Int) + 40 < n := by omega
                 have hmd : decide (80 * (t : Int) + 40 < n) = true := decide_eq_true hm1
                 obtain ⟨ys, h1, h2, h3⟩ := HT.out
                 have p1 := h3 (2 * t) (by omega) (by omega)
                 have p2 := h3 (2 * t + 1) (by omega) (by omega)
                 rw [show min (40 * (2 * t) + 40) n = 80 * t + 40 by omega, show 40 * (2 * t) = 80 * t by omega] at p1
                 rw [show min (40 * (2 * t + 1) + 40) n = n by omega, show 40 * (2 * t + 1) = 80 * t + 40 by omega] at p2
                 have hc := merge_step HC.out HL.out hn HI.out h1 (80 * t) (80 * t + 40) n (by omega) (by omega) (Nat.le_refl n) p1 p2
                 rw [show ((80 * t : Nat) : Int) = 80 * (t : Int) by omega, show ((80 * t + 40 : Nat) : Int) = 80 * (t : Int) + 40 by omega] at hc
                 have HCALL := Aside0.mk hc
                 have HYS := Aside0.mk (And.intro h1.len (And.intro h2 h3))
                 clear hc p1 p2 h1 h2 h3 HT HS
                 go_wp2_with ((with_reducible refine HCALL.out.mono ?_); rintro e5 w5 ⟨rfl, hp5⟩; have H5 := Aside0.mk hp5; clear hp5)
                 go_roundw
                 case rel =>
                   refine ⟨by omega, .inr (.inr (.inl ⟨rfl, ⟨?_⟩⟩))⟩
                   obtain ⟨zs, g1, g2, g3, g4⟩ := H5.out
                   obtain ⟨hyl, h2, h3⟩ := HYS.out
                   have hl : zs.length = ys.length := by rw [g1.len, hyl]
                   refine ⟨zs, g1, fun i hi => ?_⟩
                   rcases (show i < t ∨ i = t by omega) with h | rfl
                   · rw [show min (80 * i + 80) n = 80 * i + 80 by omega]
                     exact (h2 i h).keep hl g2 g3 (.inl (by omega))
                   · rw [show min (80 * i + 80) n = n by omega]
                     exact g4
                 case measure => simp only [intOf]; omega
               · have hm1 : ¬ 80 * (t : Int) + 40 < n := by omega
                 have hmd : decide (80 * (t : Int) + 40 < n) = false := decide_eq_false hm1
                 go_wp2_with fail
                 go_roundw
                 case rel =>
                   refine ⟨by omega, .inr (.inr (.inl ⟨rfl, ⟨?_⟩⟩))⟩
                   obtain ⟨ys, h1, h2, h3⟩ := HT.out
                   refine ⟨ys, h1, fun i hi => ?_⟩
                   rcases (show i < t ∨ i = t by omega) with h | rfl
                   · rw [show min (80 * i + 80) n = 80 * i + 80 by omega]
                     exact h2 i h
                   · have p1 := h3 (2 * i) (by omega) (by omega)
                     rw [show min (40 * (2 * i) + 40) n = n by omega, show 40 * (2 * i) = 80 * i by omega] at p1
                     rw [show min (80 * i + 80) n = n by omega]
                     exact p1
                 case measure => simp only [intOf]; omega
         · have hd1 : decide ((40 : Int) < n) = false := decide_eq_false (by omega)
           have HF := Aside0.mk (HS.out.done HL.out (by omega))
           go_wp2_with fail
           go_end0
           exact ⟨rfl, HF.out⟩
       · by_cases h20 : 80 < n
         · obtain ⟨wo, rfl⟩ : ∃ wo : World, wo = wr := ⟨_, rfl⟩
           have hd1 : decide ((80 : Int) < n) = true := decide_eq_true (by omega)
           go_wp2_with fail
           go_loopw [7, 8] (fun v7 v8 wr => ∃ t : Nat, v7 = .int .i64 (160 * (t : Int)) ∧ v8 = .int .i64 (160 * (t : Int) + 160) ∧ 160 * t ≤ n ∧ Aside0 (∃ ys, ST cf g n w wr ys ∧ (∀ i : Nat, i < t → Sg cf n ys (160 * i) (160 * i + 160)) ∧ ∀ j : Nat, 2 * t ≤ j → 80 * j ≤ n → Sg cf n ys (80 * j) (min (80 * j + 80) n))) (fun v _ _ => n - (intOf v).toNat)
           case atStart =>
             refine ⟨0, rfl, rfl, by omega, ⟨?_⟩⟩
             obtain ⟨ys, h1, h2⟩ := HS.out
             exact ⟨ys, h1, fun i hi => by omega, fun j _ hj => h2 j hj⟩
           case round =>
             obtain ⟨t, rfl, rfl, ht, HT⟩ := hrel
             by_cases hb : 160 * t + 160 ≤ n
             · have hb1 : 160 * (t : Int) + 160 ≤ n := by omega
               obtain ⟨ys, h1, h2, h3⟩ := HT.out
               have p1 := h3 (2 * t) (by omega) (by omega)
               have p2 := h3 (2 * t + 1) (by omega) (by omega)
               rw [show min (80 * (2 * t) + 80) n = 160 * t + 80 by omega, show 80 * (2 * t) = 160 * t by omega] at p1
               rw [show min (80 * (2 * t + 1) + 80) n = 160 * t + 160 by omega, show 80 * (2 * t + 1) = 160 * t + 80 by omega] at p2
               have hc := merge_step HC.out HL.out hn HI.out h1 (160 * t) (160 * t + 80) (160 * t + 160) (by omega) (by omega) hb p1 p2
               rw [show ((160 * t : Nat) : Int) = 160 * (t : Int) by omega, show ((160 * t + 80 : Nat) : Int) = 160 * (t : Int) + 80 by omega, show ((160 * t + 160 : Nat) : Int) = 160 * (t : Int) + 160 by omega] at hc
               have HCALL := Aside0.mk hc
               have HYS := Aside0.mk (And.intro h1.len (And.intro h2 h3))
               clear hc p1 p2 h1 h2 h3 HT HS
               go_wp2_with ((with_reducible refine HCALL.out.mono ?_); rintro e5 w5 ⟨rfl, hp5⟩; have H5 := Aside0.mk hp5; clear hp5)
               go_roundw
               case rel =>
                 refine ⟨t + 1, int_eq (by omega), int_eq (by omega), by omega, ⟨?_⟩⟩
                 obtain ⟨zs, g1, g2, g3, g4⟩ := H5.out
                 obtain ⟨hyl, h2, h3⟩ := HYS.out
                 have hl : zs.length = ys.length := by rw [g1.len, hyl]
                 refine ⟨zs, g1, fun i hi => ?_, fun j hj hjn => (h3 j (by omega) hjn).keep hl g2 g3 (.inr (by omega))⟩
                 rcases (show i < t ∨ i = t by omega) with h | rfl
                 · exact (h2 i h).keep hl g2 g3 (.inl (by omega))
                 · exact g4
               case measure => simp only [intOf]; omega
             · have hb1 : ¬ 160 * (t : Int) + 160 ≤ n := by omega
               have hbd : decide (160 * (t : Int) + 160 ≤ n) = false := decide_eq_false hb1
               by_cases hm : 160 * t + 80 < n
               · have hm1 : 160 * (t : Int) + 80 < n := by omega
                 have hmd : decide (160 * (t : Int) + 80 < n) = true := decide_eq_true hm1
                 obtain ⟨ys, h1, h2, h3⟩ := HT.out
                 have p1 := h3 (2 * t) (by omega) (by omega)
                 have p2 := h3 (2 * t + 1) (by omega) (by omega)
                 rw [show min (80 * (2 * t) + 80) n = 160 * t + 80 by omega, show 80 * (2 * t) = 160 * t by omega] at p1
                 rw [show min (80 * (2 * t + 1) + 80) n = n by omega, show 80 * (2 * t + 1) = 160 * t + 80 by omega] at p2
                 have hc := merge_step HC.out HL.out hn HI.out h1 (160 * t) (160 * t + 80) n (by omega) (by omega) (Nat.le_refl n) p1 p2
                 rw [show ((160 * t : Nat) : Int) = 160 * (t : Int) by omega, show ((160 * t + 80 : Nat) : Int) = 160 * (t : Int) + 80 by omega] at hc
                 have HCALL := Aside0.mk hc
                 have HYS := Aside0.mk (And.intro h1.len (And.intro h2 h3))
                 clear hc p1 p2 h1 h2 h3 HT HS
                 go_wp2_with ((with_reducible refine HCALL.out.mono ?_); rintro e5 w5 ⟨rfl, hp5⟩; have H5 := Aside0.mk hp5; clear hp5)
                 go_roundw
                 case rel =>
                   refine ⟨by omega, .inr (.inr (.inr ⟨rfl, ⟨?_⟩⟩))⟩
                   obtain ⟨zs, g1, g2, g3, g4⟩ := H5.out
                   obtain ⟨hyl, h2, h3⟩ := HYS.out
                   have hl : zs.length = ys.length := by rw [g1.len, hyl]
                   refine ⟨zs, g1, fun i hi => ?_⟩
                   rcases (show i < t ∨ i = t by omega) with h | rfl
                   · rw [show min (160 * i + 160) n = 160 * i + 160 by omega]
                     exact (h2 i h).keep hl g2 g3 (.inl (by omega))
                   · rw [show min (160 * i + 160) n = n by omega]
                     exact g4
                 case measure => simp only [intOf]; omega
               · have hm1 : ¬ 160 * (t : Int) + 80 < n := by omega
                 have hmd : decide (160 * (t : Int) + 80 < n) = false := decide_eq_false hm1
                 go_wp2_with fail
                 go_roundw
                 case rel =>
                   refine ⟨by omega, .inr (.inr (.inr ⟨rfl, ⟨?_⟩⟩))⟩
                   obtain ⟨ys, h1, h2, h3⟩ := HT.out
                   refine ⟨ys, h1, fun i hi => ?_⟩
                   rcases (show i < t ∨ i = t by omega) with h | rfl
                   · rw [show min (160 * i + 160) n = 160 * i + 160 by omega]
                     exact h2 i h
                   · have p1 := h3 (2 * i) (by omega) (by omega)
                     rw [show min (80 * (2 * i) + 80) n = n by omega, show 80 * (2 * i) = 160 * i by omega] at p1
                     rw [show min (160 * i + 160) n = n by omega]
                     exact p1
                 case measure => simp only [intOf]; omega
         · have hd1 : decide ((80 : Int) < n) = false := decide_eq_false (by omega)
           have HF := Aside0.mk (HS.out.done HL.out (by omega))
           go_wp2_with fail
           go_end0
           exact ⟨rfl, HF.out⟩
       · have hd1 : decide ((160 : Int) < n) = false := decide_eq_false (by omega)
         have HF := Aside0.mk (HS.out.done HL.out (by omega))
         go_wp2_with fail
         go_end0
         exact ⟨rfl, HF.out⟩
theorem sorts128 {k b g : Nat} {I : World → Prop} {cf : Int → Int → Int} {n : Nat} (hL : CmpLaw cf) (hn : n ≤ 128) : SortsTo 99 cf (fun x => 0 ≤ x ∧ x < n) k b g I (upto n) := by
  intro w hx hg hI hC
  have hs := stable_any hC hL hn w hg hI
  rw [upto_length]
  have HS := Aside0.mk hs
  clear hC hx hg hI hs
  go_enter Try.func99, Try.ntmps99
  go_wp2_with ((with_reducible refine HS.out.mono ?_); rintro e5 w5 ⟨rfl, hk5, hb5⟩; have HK5 := Aside0.mk (And.intro hk5 hb5); clear hk5 hb5)
  go_end0
  exact ⟨rfl, HK5.out⟩
end Go.Proofs.Ythkfahkkcjagdaa

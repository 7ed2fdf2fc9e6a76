/- Texts of this claim and words of the kit's print, trimmed to what it uses and joined. -/
import Derived.Test.YthkfahkkcjagdaaZhH
import Derived.Test.YthkfahkkcjagdaaZhMBe
import Derived.Test.YthkfahkkcjagdaaZhMQn
section
namespace Go.Proofs.Ythkfahkkcjagdaa
open PClassingBases Go.RowKit Go.Proofs.YthkfahkkcjagdaaW.PrintWords Go.Proofs.YthkfahkkcjagdaaW.PrintMore Go.Proofs.YthkfahkkcjagdaaW.PrintLast
set_option linter.unusedSimpArgs false
set_option linter.unusedVariables false

set_option maxHeartbeats 4000000 in
set_option maxRecDepth 100000 in
theorem rmicron_any (w : World) (xs : List Int) (hl : xs.length = 64) :
    Calls Try.prog 45 #[.agg (ints xs).toArray] w fun e w' => e = .returned (.tuple #[.int .i64 (micV xs), .int .i64 (cntE xs)]) ∧ Below w.heap.size w w' := by
  have b1 := below_alloc (Below.refl w.heap.size w) (.cells (ints xs).toArray 67)
  have q1 := Blk.new w (ints xs) 67
  have HT := Aside0.mk (fun W => rfirst_any W xs hl)
  have H1 := Aside0.mk (And.intro b1 q1)
  have HL := Aside0.mk (i67l hl)
  have HLEN := Aside0.mk hl
  clear b1 q1 hl
  by_cases h0 : cntE xs = 0
  · have hb := moments_bd HLEN.out h0
    have HSU := Aside0.mk (fun W => rmoments_any W xs HLEN.out (totB_ok (cntE_zero h0).1))
    have HV : Aside0 (cntV xs = xs.sum ∧ micV xs = evenF (oneF xs 64 * 100) xs.sum) := ⟨by unfold cntV; rw [if_pos h0], by unfold micV; rw [if_pos h0]⟩
    rw [HV.out.1, h0] at HT
    obtain ⟨⟨hs1, hs2⟩, ⟨ho1, ho2⟩, _⟩ := hb
    have HQ := Aside0.mk (quot_any (n := 100 * oneF xs 64) (d := xs.sum) (K := 6300) (by omega) (by omega) (by omega) (by omega) (toNat_le_mul (by omega) (by omega) (by omega)) (by decide))
    have HR := Aside0.mk (And.intro HV.out.2 h0)
    generalize xs.sum = s at *
    generalize oneF xs 64 = o at *
    generalize twoF xs 64 = t at *
    have k1 : IntKind.i64.wrap (100 * o) = 100 * o := IntWalk.i64_in _ (by omega)
    clear h0 HV
    go_enter Try.func45, Try.ntmps45
    go_wp2_with (first
      | (refine wpList_load_mid rfl 67 (.tmp 1) rfl _ _ rfl (ints xs) _ (by first | exact H1.out.2.range | exact HB2.out.2.range) Try.underlying67 rfl HL.out ?_)
      | ((with_reducible refine (HT.out _).mono ?_); rintro e w2 ⟨rfl, hb2⟩; have HB2 := Aside0.mk (And.intro (below_step H1.out.1 hb2) (H1.out.2.below hb2)); clear hb2)
      | ((with_reducible refine (HSU.out _).mono ?_); rintro e w3 ⟨rfl, hb3⟩; have HB3 := Aside0.mk (below_step HB2.out.1 hb3); clear hb3)
      | ((with_reducible refine (HQ.out.1 _).mono ?_); rintro e w4 ⟨A4, m4, c4, rfl, hd4, hb4⟩; have HB4 := Aside0.mk (And.intro (below_step HB3.out hb4) hd4); clear hb4 hd4)
      | ((with_reducible refine (HQ.out.2.1 _).mono ?_); rintro e w5 ⟨A5, m5, c5, rfl, hd5, hb5⟩; have HB5 := Aside0.mk (And.intro (below_step HB4.out.1 hb5) (And.intro (HB4.out.2.below hb5) hd5)); clear hb5 hd5)
      | ((with_reducible refine (HQ.out.2.2.1 HB5.out.2.1 HB5.out.2.2).mono ?_); rintro e w6 ⟨A6, m6, c6, rfl, hd6, hb6⟩; have HB6 := Aside0.mk (And.intro (below_step HB5.out.1 hb6) hd6); clear hb6 hd6)
      | ((with_reducible refine (HQ.out.2.2.2 HB6.out.2).mono ?_); rintro e w7 ⟨rfl, hb7⟩; have HB7 := Aside0.mk (below_step HB6.out.1 hb7); clear hb7))
    go_ret2
    exact ⟨ret2v (show Value.int .i64 (evenF (100 * o) s) = _ by rw [HR.out.1, Int.mul_comm]) (show Value.int .i64 0 = _ by rw [HR.out.2]), HB7.out⟩
  · have HV : Aside0 (cntV xs = 0 ∧ micV xs = 0) := ⟨by unfold cntV; rw [if_neg h0], by unfold micV; rw [if_neg h0]⟩
    rw [HV.out.1] at HT
    obtain ⟨c, hc⟩ : ∃ c, c = cntE xs := ⟨_, rfl⟩
    rw [← hc] at HT h0
    have HCC := Aside0.mk hc; clear hc
    have hcb : (c != 0) = true := by simpa using h0
    go_enter Try.func45, Try.ntmps45
    go_wp2_with (first
      | (refine wpList_load_mid rfl 67 (.tmp 1) rfl _ _ rfl (ints xs) _ H1.out.2.range Try.underlying67 rfl HL.out ?_)
      | ((with_reducible refine (HT.out _).mono ?_); rintro e w2 ⟨rfl, hb2⟩; have HB2 := Aside0.mk (below_step H1.out.1 hb2); clear hb2))
    go_ret2
    exact ⟨ret2v (show Value.int .i64 0 = _ by rw [HV.out.2]) (show Value.int .i64 c = _ by rw [HCC.out]), HB2.out⟩

end Go.Proofs.Ythkfahkkcjagdaa
end
section
namespace Go.Proofs.Ythkfahkkcjagdaa
open PClassingBases Go.RowKit Go.Proofs.YthkfahkkcjagdaaW.PrintWords Go.Proofs.YthkfahkkcjagdaaW.PrintMore Go.Proofs.YthkfahkkcjagdaaW.PrintLast
set_option linter.unusedSimpArgs false
set_option linter.unusedVariables false

def KC (w5 : World) (b1 : Nat) (W : World) : Prop := Kp (fun k => k = b1) w5 W ∧ ∃ b A m c, Blk W b1 [.bool b, .slice A m c] 117
theorem KC.drew {w5 W : World} {b1 : Nat} (h : KC w5 b1 W) : KC w5 b1 W.drew := ⟨h.1.drew, h.2⟩
theorem KC.below {w5 W W' : World} {b1 : Nat} (h : KC w5 b1 W) (k : Below W.heap.size W W') : KC w5 b1 W' := ⟨h.1.then_below k, by obtain ⟨b, A, m, c, hb⟩ := h.2; exact ⟨b, A, m, c, hb.below k⟩⟩
theorem KC.set0 {w5 W : World} {b1 : Nat} (h : KC w5 b1 W) (x : Bool) : KC w5 b1 (W.setCell ⟨b1, 0, none⟩ (.bool x)) := ⟨h.1.setCell (fun _ => rfl) _, by obtain ⟨b, A, m, c, hb⟩ := h.2; exact ⟨x, A, m, c, hb.set 0 _⟩⟩
theorem KC.set1 {w5 W : World} {b1 : Nat} (h : KC w5 b1 W) (A : Option Addr) (m c : Nat) : KC w5 b1 (W.setCell ⟨b1, 1, none⟩ (.slice A m c)) := ⟨h.1.setCell (fun _ => rfl) _, by obtain ⟨b, _, _, _, hb⟩ := h.2; exact ⟨b, A, m, c, hb.set 1 _⟩⟩
theorem hbU {w2 W : World} {P : Prop} (h : Aside0 (Below w2.heap.size w2 W) ∧ P) : Below w2.heap.size w2 W := h.1.out
theorem hkC {w5 W : World} {b1 : Nat} {P : Prop} (h : Aside0 (KC w5 b1 W) ∧ P) : KC w5 b1 W := h.1.out
theorem KC.up {w w5 W : World} {b1 : Nat} (h : KC w5 b1 W) (hb : Below w.heap.size w w5) (hl : w.heap.size ≤ b1) : Below w.heap.size w W :=
  ((Kp.of_below hb : Kp (fun k => k = b1) w w5).step h.1).below_of (fun k hk => by omega)
/-- The result of a whole number, stored. -/
theorem big_store {W : World} {b2 n : Nat} {b b' : Bool} {A A' : Option Addr} {m m' c c' : Nat} (hb : Blk W b2 [.bool b, .slice A m c] 117) (hd : BD W (.slice A' m' c') n) :
    Blk ((W.setCell ⟨b2, 0, none⟩ (.bool b')).setCell ⟨b2, 1, none⟩ (.slice A' m' c')) b2 [.bool b', .slice A' m' c'] 117 ∧ BD ((W.setCell ⟨b2, 0, none⟩ (.bool b')).setCell ⟨b2, 1, none⟩ (.slice A' m' c')) (.slice A' m' c') n :=
  ⟨(hb.set 0 _).set 1 _, (hd.set hb 0 _).set (hb.set 0 _) 1 _⟩
theorem big_mulD {a b : Nat} {u v : Value} {w : World} (hu : BD w u a) (hv : BD w v b) (hl : (dig a).length + (dig b).length ≤ 1000) :
    Calls Try.prog 120 #[u, v] w fun e w' => ∃ A m c, e = .returned (.slice A m c) ∧ BD w' (.slice A m c) (a * b) ∧ Below w.heap.size w w' := by
  have he := mul_ev (Rng_dig a) (Rng_dig b) hl
  rw [val_dig, val_dig] at he
  obtain ⟨k, hk⟩ := he.rounds
  obtain ⟨A, c, rfl, hc, hr⟩ := hu
  obtain ⟨B, d, rfl, hd, hs⟩ := hv
  refine (merinoref01_mulD.calls k A c (dig a) B d (dig b) _ w hr hc hs hd hk).mono ?_
  rintro e w' ⟨y, rfl, hy, hb⟩
  have h := BD.of_R hy
  obtain ⟨A2, m2, c2, rfl⟩ := h.slice
  exact ⟨A2, m2, c2, rfl, h, hb⟩
theorem big_subD {a b : Nat} {u v : Value} {w : World} (hu : BD w u a) (hv : BD w v b) (ha : Sm a) (hab : b ≤ a) :
    Calls Try.prog 129 #[u, v] w fun e w' => ∃ A m c, e = .returned (.slice A m c) ∧ BD w' (.slice A m c) (a - b) ∧ Below w.heap.size w w' := by
  have he := sub_ev (Rng_dig a) (Rng_dig b) (Nat.le_trans ha (by decide)) (dig_mono hab) (by rw [val_dig, val_dig]; exact hab)
  rw [val_dig, val_dig] at he
  obtain ⟨k, hk⟩ := he.rounds
  obtain ⟨A, c, rfl, hc, hr⟩ := hu
  obtain ⟨B, d, rfl, hd, hs⟩ := hv
  refine (merinoref01_subD.calls k A c (dig a) B d (dig b) _ w hr hc hs hd hk).mono ?_
  rintro e w' ⟨y, rfl, hy, hb⟩
  have h := BD.of_R hy
  obtain ⟨A2, m2, c2, rfl⟩ := h.slice
  exact ⟨A2, m2, c2, rfl, h, hb⟩
/-- Two numbers that came in and a place for the result. -/
theorem big_two (w : World) (b b' : Bool) (A A' : Option Addr) (m m' c c' : Nat) : ∃ w3, w3 = ((w.alloc (.cells #[.bool b, .slice A m c] 117)).alloc (.cells #[.bool b', .slice A' m' c'] 117)).alloc (.cells #[.bool false, .slice none 0 0] 117) ∧ Below w.heap.size w w3 ∧ Blk w3 w.heap.size [.bool b, .slice A m c] 117 ∧ Blk w3 (w.heap.size + 1) [.bool b', .slice A' m' c'] 117 ∧ Blk w3 (w.heap.size + 1 + 1) [.bool false, .slice none 0 0] 117 := by
  have q0 := ((Blk.new w [.bool b, .slice A m c] 117).alloc (.cells #[.bool b', .slice A' m' c'] 117)).alloc (.cells #[.bool false, .slice none 0 0] 117)
  have q1 := (Blk.new (w.alloc (.cells #[.bool b, .slice A m c] 117)) [.bool b', .slice A' m' c'] 117).alloc (.cells #[.bool false, .slice none 0 0] 117)
  have q2 := Blk.new ((w.alloc (.cells #[.bool b, .slice A m c] 117)).alloc (.cells #[.bool b', .slice A' m' c'] 117)) [.bool false, .slice none 0 0] 117
  rw [show (w.alloc (.cells #[.bool b, .slice A m c] 117)).heap.size = w.heap.size + 1 by simp] at q1
  rw [show ((w.alloc (.cells #[.bool b, .slice A m c] 117)).alloc (.cells #[.bool b', .slice A' m' c'] 117)).heap.size = w.heap.size + 1 + 1 by simp] at q2
  exact ⟨_, rfl, below_alloc (below_alloc (below_alloc (Below.refl _ _) _) _) _, q0, q1, q2⟩
set_option maxHeartbeats 4000000 in
theorem rneg_any {a : Nat} {u : Value} {w : World} (hu : BD w u a) (ha : Sm a) :
    Calls Try.prog 109 #[.agg #[.bool false, u]] w fun e w' => ∃ A m c, e = .returned (.agg #[.bool (decide (0 < a)), .slice A m c]) ∧ BD w' (.slice A m c) a ∧ Below w.heap.size w w' := by
  obtain ⟨A, m, c, rfl⟩ := hu.slice
  have q0 := (Blk.new w [.bool false, .slice A m c] 117).alloc (.cells #[.bool false, .slice none 0 0] 117)
  have q1 := Blk.new (w.alloc (.cells #[.bool false, .slice A m c] 117)) [.bool false, .slice none 0 0] 117
  rw [show (w.alloc (.cells #[.bool false, .slice A m c] 117)).heap.size = w.heap.size + 1 by simp] at q1
  obtain ⟨w2, hw2⟩ : ∃ z, z = (w.alloc (.cells #[.bool false, .slice A m c] 117)).alloc (.cells #[.bool false, .slice none 0 0] 117) := ⟨_, rfl⟩
  have hb : Below w.heap.size w w2 := by rw [hw2]; exact below_alloc (below_alloc (Below.refl _ _) _) _
  have HW := Aside0.mk hw2
  rw [← hw2] at q0 q1
  have H2 := Aside0.mk (And.intro hb (And.intro (hu.below hb) (And.intro q0 q1)))
  have HWH := Aside0.mk (big_whole true (H2.out.2.1) ha)
  rw [Bool.true_and] at HWH
  obtain ⟨t, ht⟩ : ∃ t, t = decide (0 < a) := ⟨_, rfl⟩
  rw [← ht] at HWH ⊢
  clear hw2 hb hu ha ht q0 q1
  go_enter Try.func109, Try.ntmps109
  go_upto_region 1 with fail
  rw [← HW.out]
  obtain ⟨b0, hb0⟩ : ∃ z, z = w.heap.size := ⟨_, rfl⟩
  obtain ⟨b1, hb1⟩ : ∃ z, z = b0 + 1 := ⟨_, rfl⟩
  rw [← hb0]
  rw [← hb1]
  have HQ : Aside0 (Blk w2 b0 [.bool false, .slice A m c] 117 ∧ Blk w2 b1 [.bool false, .slice none 0 0] 117 ∧ w.heap.size ≤ b1) := ⟨by rw [hb0]; exact H2.out.2.2.1, by rw [hb1, hb0]; exact H2.out.2.2.2, by omega⟩
  have s0 := HQ.out.1.at_ (i := 0) rfl
  have s1 := HQ.out.1.at_ (i := 1) rfl
  clear hb0 hb1 HW
  go_wp2_with ((with_reducible refine HWH.out.mono ?_); rintro e4 w4 ⟨v4, rfl, hd4, hb4⟩; obtain ⟨A4, m4, c4, rfl⟩ := hd4.slice; have H4 := Aside0.mk (And.intro hb4 (And.intro hd4 (HQ.out.2.1.below hb4))); have z0 := H4.out.2.2.at_ (i := 0) rfl; have z1 := H4.out.2.2.at_ (i := 1) rfl; have zf := H4.out.2.2.free; clear hb4 hd4)
  have hF := big_store (b' := t) H4.out.2.2 H4.out.2.1
  have r0 := hF.1.at_ (i := 0) rfl
  have r1 := hF.1.at_ (i := 1) rfl
  refine bodyPost_ret (v := .agg #[.bool t, .slice A4 m4 c4]) (by simp [results, Try.results109, go_sem, r0, r1]) rfl ?_
  exact ⟨A4, m4, c4, rfl, hF.2, Below.setCell (Below.setCell (below_step H2.out.1 H4.out.1) (p := ⟨b1, 0, none⟩) HQ.out.2.2 _) (p := ⟨b1, 1, none⟩) HQ.out.2.2 _⟩
end Go.Proofs.Ythkfahkkcjagdaa
end
section
namespace Go.Proofs.Ythkfahkkcjagdaa
open PClassingBases Go.RowKit Go.Proofs.YthkfahkkcjagdaaW.PrintWords Go.Proofs.YthkfahkkcjagdaaW.PrintMore Go.Proofs.YthkfahkkcjagdaaW.PrintLast
set_option linter.unusedSimpArgs false
set_option linter.unusedVariables false

set_option maxHeartbeats 8000000 in
set_option maxRecDepth 100000 in
theorem rtimes_any {a b : Nat} {u v : Value} {w : World} (hu : BD w u a) (hv : BD w v b) (hl : (dig a).length + (dig b).length ≤ 1000) (hs : Sm (a * b)) :
    Calls Try.prog 89 #[.agg #[.bool false, u], .agg #[.bool false, v]] w fun e w' => ∃ A m c, e = .returned (.agg #[.bool false, .slice A m c]) ∧ BD w' (.slice A m c) (a * b) ∧ Below w.heap.size w w' := by
  obtain ⟨A, m, c, rfl⟩ := hu.slice
  obtain ⟨A2, m2, c2, rfl⟩ := hv.slice
  obtain ⟨w3, hw3, hb3, q0, q1, q2⟩ := big_two w false false A A2 m m2 c c2
  have HW := Aside0.mk hw3
  obtain ⟨b0, hb0⟩ : ∃ z, z = w.heap.size := ⟨_, rfl⟩
  obtain ⟨b1, hb1⟩ : ∃ z, z = b0 + 1 := ⟨_, rfl⟩
  obtain ⟨b2, hb2⟩ : ∃ z, z = b1 + 1 := ⟨_, rfl⟩
  have HBB := Aside0.mk (And.intro hb0 (And.intro hb1 hb2))
  rw [← hb0] at q0 q1 q2
  rw [← hb1] at q1 q2
  rw [← hb2] at q2
  have HQ := Aside0.mk (And.intro hb3 (And.intro q0 (And.intro q1 q2)))
  have HD := Aside0.mk (And.intro hu hv)
  have HUP : Aside0 (∀ W, KC w3 b2 W → Below w.heap.size w W) := ⟨fun W hW => hW.up hb3 (by omega)⟩
  have HSS := Aside0.mk (fun (W : World) (hW : KC w3 b2 W) => (⟨⟨hW⟩, (q0.kp hW.1 (by omega)).at_ (i := 0) rfl, (q0.kp hW.1 (by omega)).at_ (i := 1) rfl, (q1.kp hW.1 (by omega)).at_ (i := 0) rfl, (q1.kp hW.1 (by omega)).at_ (i := 1) rfl⟩ : Aside0 (KC w3 b2 W) ∧ W.cell? ⟨b0, 0, none⟩ = some (.bool false) ∧ W.cell? ⟨b0, 1, none⟩ = some (.slice A m c) ∧ W.cell? ⟨b1, 0, none⟩ = some (.bool false) ∧ W.cell? ⟨b1, 1, none⟩ = some (.slice A2 m2 c2)))
  have HK3 : Aside0 (KC w3 b2 w3) := ⟨Kp.refl _ _, _, _, _, _, q2⟩
  have HMU := Aside0.mk (fun (W : World) (hW : KC w3 b2 W) => big_mulD (hu.below (HUP.out W hW)) (hv.below (HUP.out W hW)) hl)
  have HSM := Aside0.mk hs
  have n0 : (false != false) = false := rfl
  clear hw3 hb3 q0 q1 q2 hb0 hb1 hb2 hu hv hl hs
  go_enter Try.func89, Try.ntmps89
  go_upto_region 1 with fail
  rw [← HW.out, ← HBB.out.1, ← HBB.out.2.1, ← HBB.out.2.2]
  clear HW
  go_region_held3 (fun W => Aside0 (KC w3 b2 W) ∧ W.cell? ⟨b0, 0, none⟩ = some (.bool false) ∧ W.cell? ⟨b0, 1, none⟩ = some (.slice A m c) ∧ W.cell? ⟨b1, 0, none⟩ = some (.bool false) ∧ W.cell? ⟨b1, 1, none⟩ = some (.slice A2 m2 c2))
    ((refine HSS.out _ ?_; repeat (with_reducible (first | exact HK3.out | exact HB6.out | exact HB7.out | refine KC.drew ?_ | refine KC.set0 ?_ _ | refine KC.set1 ?_ _ _ _))))
    (first
      | ((with_reducible refine (HMU.out _ (hkC (by assumption))).mono ?_); rintro e6 w6 ⟨A6, m6, c6, rfl, hd6, hb6⟩; have HB6 := Aside0.mk ((hkC (by assumption)).below hb6); have HD6 := Aside0.mk hd6; clear hd6 hb6)
      | ((with_reducible refine (big_whole0 (by first | exact HD6.out | exact HD6.out.drew) HSM.out).mono ?_); rintro e7 w7 ⟨A7, m7, c7, rfl, hd7, hb7⟩; have HB7 := Aside0.mk ((hkC (by assumption)).below hb7); obtain ⟨zb, zA, zm, zc, hz7⟩ := HB7.out.2; have HZ7 := Aside0.mk hz7; have HD7 := Aside0.mk hd7; have z0 := hz7.at_ (i := 0) rfl; have z1 := hz7.at_ (i := 1) rfl; have zf := hz7.free; clear hz7 hd7 hb7))
  have hF := big_store (b' := false) HZ7.out HD7.out
  have r0 := hF.1.at_ (i := 0) rfl
  have r1 := hF.1.at_ (i := 1) rfl
  go_wp2_with fail
  refine bodyPost_ret (v := .agg #[.bool false, .slice A7 m7 c7]) (by simp [results, Try.results89, go_sem, r0, r1]) rfl ?_
  exact ⟨A7, m7, c7, rfl, hF.2, HUP.out _ ((HB7.out.set0 _).set1 _ _ _)⟩

theorem sg_ge {a b : Nat} (h : b ≤ a) : 0 ≤ sg a b := by unfold sg; (repeat' split) <;> omega
set_option maxHeartbeats 8000000 in
set_option maxRecDepth 100000 in
theorem rplusN_any {a b : Nat} {u v : Value} {w : World} (hu : BD w u a) (hv : BD w v b) (ha : Sm a) (hab : b ≤ a) :
    Calls Try.prog 118 #[.agg #[.bool false, u], .agg #[.bool true, v]] w fun e w' => ∃ A m c, e = .returned (.agg #[.bool false, .slice A m c]) ∧ BD w' (.slice A m c) (a - b) ∧ Below w.heap.size w w' := by
  obtain ⟨A, m, c, rfl⟩ := hu.slice
  obtain ⟨A2, m2, c2, rfl⟩ := hv.slice
  obtain ⟨w3, hw3, hb3, q0, q1, q2⟩ := big_two w false true A A2 m m2 c c2
  have HW := Aside0.mk hw3
  obtain ⟨b0, hb0⟩ : ∃ z, z = w.heap.size := ⟨_, rfl⟩
  obtain ⟨b1, hb1⟩ : ∃ z, z = b0 + 1 := ⟨_, rfl⟩
  obtain ⟨b2, hb2⟩ : ∃ z, z = b1 + 1 := ⟨_, rfl⟩
  have HBB := Aside0.mk (And.intro hb0 (And.intro hb1 hb2))
  rw [← hb0] at q0 q1 q2
  rw [← hb1] at q1 q2
  rw [← hb2] at q2
  have HQ := Aside0.mk (And.intro hb3 (And.intro q0 (And.intro q1 q2)))
  have HD := Aside0.mk (And.intro hu hv)
  have HUP : Aside0 (∀ W, KC w3 b2 W → Below w.heap.size w W) := ⟨fun W hW => hW.up hb3 (by omega)⟩
  have HSS := Aside0.mk (fun (W : World) (hW : KC w3 b2 W) => (⟨⟨hW⟩, (q0.kp hW.1 (by omega)).at_ (i := 0) rfl, (q0.kp hW.1 (by omega)).at_ (i := 1) rfl, (q1.kp hW.1 (by omega)).at_ (i := 0) rfl, (q1.kp hW.1 (by omega)).at_ (i := 1) rfl⟩ : Aside0 (KC w3 b2 W) ∧ W.cell? ⟨b0, 0, none⟩ = some (.bool false) ∧ W.cell? ⟨b0, 1, none⟩ = some (.slice A m c) ∧ W.cell? ⟨b1, 0, none⟩ = some (.bool true) ∧ W.cell? ⟨b1, 1, none⟩ = some (.slice A2 m2 c2)))
  have HK3 : Aside0 (KC w3 b2 w3) := ⟨Kp.refl _ _, _, _, _, _, q2⟩
  have HMU := Aside0.mk (fun (W : World) (hW : KC w3 b2 W) => big_subD (hu.below (HUP.out W hW)) (hv.below (HUP.out W hW)) ha hab)
  have HCM := Aside0.mk (big_cmpD rfl (hu.below hb3) (hv.below hb3) ha (Sm.of_le hab ha))
  have HSM := Aside0.mk (Sm.of_le (Nat.sub_le a b) ha)
  have hsg := sg_ge hab
  obtain ⟨sgn, hsn⟩ : ∃ z, z = sg a b := ⟨_, rfl⟩
  rw [← hsn] at HCM hsg
  have n0 : (false == true) = false := rfl
  have n1 : decide (sgn ≥ 0) = true := decide_eq_true hsg
  have s0 := q0.at_ (i := 0) rfl
  have s1 := q0.at_ (i := 1) rfl
  have s2 := q1.at_ (i := 0) rfl
  have s3 := q1.at_ (i := 1) rfl
  clear hw3 hb3 q0 q1 q2 hb0 hb1 hb2 hu hv ha hab hsn
  go_enter Try.func118, Try.ntmps118
  go_upto_region 1 with fail
  rw [← HW.out, ← HBB.out.1, ← HBB.out.2.1, ← HBB.out.2.2]
  clear HW
  go_upto_region 4 with ((with_reducible refine HCM.out.mono ?_); rintro e5 w5 ⟨rfl, hb5⟩; have HK5 := Aside0.mk (HK3.out.below hb5); clear hb5)
  clear s0 s1 s2 s3
  go_region_held3 (fun W => Aside0 (KC w3 b2 W) ∧ W.cell? ⟨b0, 0, none⟩ = some (.bool false) ∧ W.cell? ⟨b0, 1, none⟩ = some (.slice A m c) ∧ W.cell? ⟨b1, 0, none⟩ = some (.bool true) ∧ W.cell? ⟨b1, 1, none⟩ = some (.slice A2 m2 c2))
    ((refine HSS.out _ ?_; repeat (with_reducible (first | exact HK5.out | exact HB6.out | exact HB7.out | refine KC.drew ?_ | refine KC.set0 ?_ _ | refine KC.set1 ?_ _ _ _))))
    (first
      | ((with_reducible refine (HMU.out _ (hkC (by assumption))).mono ?_); rintro e6 w6 ⟨A6, m6, c6, rfl, hd6, hb6⟩; have HB6 := Aside0.mk ((hkC (by assumption)).below hb6); have HD6 := Aside0.mk hd6; clear hd6 hb6)
      | ((with_reducible refine (big_whole0 (by first | exact HD6.out | exact HD6.out.drew) HSM.out).mono ?_); rintro e7 w7 ⟨A7, m7, c7, rfl, hd7, hb7⟩; have HB7 := Aside0.mk ((hkC (by assumption)).below hb7); obtain ⟨zb, zA, zm, zc, hz7⟩ := HB7.out.2; have HZ7 := Aside0.mk hz7; have HD7 := Aside0.mk hd7; have z0 := hz7.at_ (i := 0) rfl; have z1 := hz7.at_ (i := 1) rfl; have zf := hz7.free; clear hz7 hd7 hb7))
  have hF := big_store (b' := false) HZ7.out HD7.out
  have r0 := hF.1.at_ (i := 0) rfl
  have r1 := hF.1.at_ (i := 1) rfl
  go_wp2_with fail
  refine bodyPost_ret (v := .agg #[.bool false, .slice A7 m7 c7]) (by simp [results, Try.results118, go_sem, r0, r1]) rfl ?_
  exact ⟨A7, m7, c7, rfl, hF.2, HUP.out _ ((HB7.out.set0 _).set1 _ _ _)⟩


set_option maxHeartbeats 8000000 in
set_option maxRecDepth 100000 in
theorem rminusP_any {a b : Nat} {u v : Value} {w : World} (hu : BD w u a) (hv : BD w v b) (ha : Sm a) (hab : b ≤ a) (hbz : 0 < b) :
    Calls Try.prog 88 #[.agg #[.bool false, u], .agg #[.bool false, v]] w fun e w' => ∃ A m c, e = .returned (.agg #[.bool false, .slice A m c]) ∧ BD w' (.slice A m c) (a - b) ∧ Below w.heap.size w w' := by
  obtain ⟨A, m, c, rfl⟩ := hu.slice
  obtain ⟨A2, m2, c2, rfl⟩ := hv.slice
  obtain ⟨w3, hw3, hb3, q0, q1, q2⟩ := big_two w false false A A2 m m2 c c2
  have HW := Aside0.mk hw3
  obtain ⟨b0, hb0⟩ : ∃ z, z = w.heap.size := ⟨_, rfl⟩
  obtain ⟨b1, hb1⟩ : ∃ z, z = b0 + 1 := ⟨_, rfl⟩
  obtain ⟨b2, hb2⟩ : ∃ z, z = b1 + 1 := ⟨_, rfl⟩
  have HBB := Aside0.mk (And.intro hb0 (And.intro hb1 hb2))
  rw [← hb0] at q0 q1 q2
  rw [← hb1] at q1 q2
  rw [← hb2] at q2
  have HQ := Aside0.mk (And.intro hb3 (And.intro q0 (And.intro q1 q2)))
  have HD := Aside0.mk (And.intro hu hv)
  have HUP : Aside0 (∀ W, KC w3 b2 W → Below w.heap.size w W) := ⟨fun W hW => hW.up hb3 (by omega)⟩
  have HSS := Aside0.mk (fun (W : World) (hW : KC w3 b2 W) => (⟨⟨hW⟩, (q0.kp hW.1 (by omega)).at_ (i := 0) rfl, (q0.kp hW.1 (by omega)).at_ (i := 1) rfl, (q1.kp hW.1 (by omega)).at_ (i := 0) rfl, (q1.kp hW.1 (by omega)).at_ (i := 1) rfl⟩ : Aside0 (KC w3 b2 W) ∧ W.cell? ⟨b0, 0, none⟩ = some (.bool false) ∧ W.cell? ⟨b0, 1, none⟩ = some (.slice A m c) ∧ W.cell? ⟨b1, 0, none⟩ = some (.bool false) ∧ W.cell? ⟨b1, 1, none⟩ = some (.slice A2 m2 c2)))
  have HK3 : Aside0 (KC w3 b2 w3) := ⟨Kp.refl _ _, _, _, _, _, q2⟩
  have HMU := Aside0.mk (fun (W : World) (hW : KC w3 b2 W) => rneg_any (hv.below (HUP.out W hW)) (Sm.of_le hab ha))
  rw [decide_eq_true hbz] at HMU
  have HPL := Aside0.mk (fun (W : World) (hW : KC w3 b2 W) (x : Value) (hx : BD W x b) => rplusN_any (hu.below (HUP.out W hW)) hx ha hab)
  clear hw3 hb3 q0 q1 q2 hb0 hb1 hb2 hu hv ha hab hbz
  go_enter Try.func88, Try.ntmps88
  go_upto_region 1 with fail
  rw [← HW.out, ← HBB.out.1, ← HBB.out.2.1, ← HBB.out.2.2]
  clear HW
  go_region_held3 (fun W => Aside0 (KC w3 b2 W) ∧ W.cell? ⟨b0, 0, none⟩ = some (.bool false) ∧ W.cell? ⟨b0, 1, none⟩ = some (.slice A m c) ∧ W.cell? ⟨b1, 0, none⟩ = some (.bool false) ∧ W.cell? ⟨b1, 1, none⟩ = some (.slice A2 m2 c2))
    ((refine HSS.out _ ?_; repeat (with_reducible (first | exact HK3.out | exact HB6.out | exact HB7.out | refine KC.drew ?_ | refine KC.set0 ?_ _ | refine KC.set1 ?_ _ _ _))))
    (first
      | ((with_reducible refine (HMU.out _ (hkC (by assumption))).mono ?_); rintro e6 w6 ⟨A6, m6, c6, rfl, hd6, hb6⟩; have HB6 := Aside0.mk ((hkC (by assumption)).below hb6); have HD6 := Aside0.mk hd6; clear hd6 hb6)
      | ((with_reducible refine (HPL.out _ (hkC (by assumption)) _ (by first | exact HD6.out | exact HD6.out.drew)).mono ?_); rintro e7 w7 ⟨A7, m7, c7, rfl, hd7, hb7⟩; have HB7 := Aside0.mk ((hkC (by assumption)).below hb7); obtain ⟨zb, zA, zm, zc, hz7⟩ := HB7.out.2; have HZ7 := Aside0.mk hz7; have HD7 := Aside0.mk hd7; have z0 := hz7.at_ (i := 0) rfl; have z1 := hz7.at_ (i := 1) rfl; have zf := hz7.free; clear hz7 hd7 hb7))
  have hF := big_store (b' := false) HZ7.out HD7.out
  have r0 := hF.1.at_ (i := 0) rfl
  have r1 := hF.1.at_ (i := 1) rfl
  go_wp2_with fail
  refine bodyPost_ret (v := .agg #[.bool false, .slice A7 m7 c7]) (by simp [results, Try.results88, go_sem, r0, r1]) rfl ?_
  exact ⟨A7, m7, c7, rfl, hF.2, HUP.out _ ((HB7.out.set0 _).set1 _ _ _)⟩

set_option maxHeartbeats 8000000 in
set_option maxRecDepth 100000 in
theorem rminusZ_any {a b : Nat} {u v : Value} {w : World} (hu : BD w u a) (hv : BD w v b) (ha : Sm a) (hab : b ≤ a) (hbz : b = 0) :
    Calls Try.prog 88 #[.agg #[.bool false, u], .agg #[.bool false, v]] w fun e w' => ∃ A m c, e = .returned (.agg #[.bool false, .slice A m c]) ∧ BD w' (.slice A m c) (a - b) ∧ Below w.heap.size w w' := by
  obtain ⟨A, m, c, rfl⟩ := hu.slice
  obtain ⟨A2, m2, c2, rfl⟩ := hv.slice
  obtain ⟨w3, hw3, hb3, q0, q1, q2⟩ := big_two w false false A A2 m m2 c c2
  have HW := Aside0.mk hw3
  obtain ⟨b0, hb0⟩ : ∃ z, z = w.heap.size := ⟨_, rfl⟩
  obtain ⟨b1, hb1⟩ : ∃ z, z = b0 + 1 := ⟨_, rfl⟩
  obtain ⟨b2, hb2⟩ : ∃ z, z = b1 + 1 := ⟨_, rfl⟩
  have HBB := Aside0.mk (And.intro hb0 (And.intro hb1 hb2))
  rw [← hb0] at q0 q1 q2
  rw [← hb1] at q1 q2
  rw [← hb2] at q2
  have HQ := Aside0.mk (And.intro hb3 (And.intro q0 (And.intro q1 q2)))
  have HD := Aside0.mk (And.intro hu hv)
  have HUP : Aside0 (∀ W, KC w3 b2 W → Below w.heap.size w W) := ⟨fun W hW => hW.up hb3 (by omega)⟩
  have HSS := Aside0.mk (fun (W : World) (hW : KC w3 b2 W) => (⟨⟨hW⟩, (q0.kp hW.1 (by omega)).at_ (i := 0) rfl, (q0.kp hW.1 (by omega)).at_ (i := 1) rfl, (q1.kp hW.1 (by omega)).at_ (i := 0) rfl, (q1.kp hW.1 (by omega)).at_ (i := 1) rfl⟩ : Aside0 (KC w3 b2 W) ∧ W.cell? ⟨b0, 0, none⟩ = some (.bool false) ∧ W.cell? ⟨b0, 1, none⟩ = some (.slice A m c) ∧ W.cell? ⟨b1, 0, none⟩ = some (.bool false) ∧ W.cell? ⟨b1, 1, none⟩ = some (.slice A2 m2 c2)))
  have HK3 : Aside0 (KC w3 b2 w3) := ⟨Kp.refl _ _, _, _, _, _, q2⟩
  have HMU := Aside0.mk (fun (W : World) (hW : KC w3 b2 W) => rneg_any (hv.below (HUP.out W hW)) (Sm.of_le hab ha))
  rw [decide_eq_false (by omega : ¬ 0 < b)] at HMU
  have HPL := Aside0.mk (fun (W : World) (hW : KC w3 b2 W) (x : Value) (hx : BD W x b) => (show Calls Try.prog 118 #[.agg #[.bool false, .slice A m c], .agg #[.bool false, x]] W fun e w' => ∃ A m c, e = .returned (.agg #[.bool false, .slice A m c]) ∧ BD w' (.slice A m c) (a - b) ∧ Below W.heap.size W w' by have := big_plus0 (hu.below (HUP.out W hW)) hx ha (Sm.of_le hab ha); rwa [show a + b = a - b by omega] at this))
  clear hw3 hb3 q0 q1 q2 hb0 hb1 hb2 hu hv ha hab hbz
  go_enter Try.func88, Try.ntmps88
  go_upto_region 1 with fail
  rw [← HW.out, ← HBB.out.1, ← HBB.out.2.1, ← HBB.out.2.2]
  clear HW
  go_region_held3 (fun W => Aside0 (KC w3 b2 W) ∧ W.cell? ⟨b0, 0, none⟩ = some (.bool false) ∧ W.cell? ⟨b0, 1, none⟩ = some (.slice A m c) ∧ W.cell? ⟨b1, 0, none⟩ = some (.bool false) ∧ W.cell? ⟨b1, 1, none⟩ = some (.slice A2 m2 c2))
    ((refine HSS.out _ ?_; repeat (with_reducible (first | exact HK3.out | exact HB6.out | exact HB7.out | refine KC.drew ?_ | refine KC.set0 ?_ _ | refine KC.set1 ?_ _ _ _))))
    (first
      | ((with_reducible refine (HMU.out _ (hkC (by assumption))).mono ?_); rintro e6 w6 ⟨A6, m6, c6, rfl, hd6, hb6⟩; have HB6 := Aside0.mk ((hkC (by assumption)).below hb6); have HD6 := Aside0.mk hd6; clear hd6 hb6)
      | ((with_reducible refine (HPL.out _ (hkC (by assumption)) _ (by first | exact HD6.out | exact HD6.out.drew)).mono ?_); rintro e7 w7 ⟨A7, m7, c7, rfl, hd7, hb7⟩; have HB7 := Aside0.mk ((hkC (by assumption)).below hb7); obtain ⟨zb, zA, zm, zc, hz7⟩ := HB7.out.2; have HZ7 := Aside0.mk hz7; have HD7 := Aside0.mk hd7; have z0 := hz7.at_ (i := 0) rfl; have z1 := hz7.at_ (i := 1) rfl; have zf := hz7.free; clear hz7 hd7 hb7))
  have hF := big_store (b' := false) HZ7.out HD7.out
  have r0 := hF.1.at_ (i := 0) rfl
  have r1 := hF.1.at_ (i := 1) rfl
  go_wp2_with fail
  refine bodyPost_ret (v := .agg #[.bool false, .slice A7 m7 c7]) (by simp [results, Try.results88, go_sem, r0, r1]) rfl ?_
  exact ⟨A7, m7, c7, rfl, hF.2, HUP.out _ ((HB7.out.set0 _).set1 _ _ _)⟩

theorem rminus_any {a b : Nat} {u v : Value} {w : World} (hu : BD w u a) (hv : BD w v b) (ha : Sm a) (hab : b ≤ a) :
    Calls Try.prog 88 #[.agg #[.bool false, u], .agg #[.bool false, v]] w fun e w' => ∃ A m c, e = .returned (.agg #[.bool false, .slice A m c]) ∧ BD w' (.slice A m c) (a - b) ∧ Below w.heap.size w w' := by
  by_cases h : b = 0
  · exact rminusZ_any hu hv ha hab h
  · exact rminusP_any hu hv ha hab (by omega)
end Go.Proofs.Ythkfahkkcjagdaa
end
section
namespace Go.Proofs.Ythkfahkkcjagdaa
open PClassingBases Go.RowKit Go.Proofs.YthkfahkkcjagdaaW.PrintWords Go.Proofs.YthkfahkkcjagdaaW.PrintMore Go.Proofs.YthkfahkkcjagdaaW.PrintLast
set_option linter.unusedSimpArgs false
set_option linter.unusedVariables false

theorem rtimesS_any {a b : Nat} {u v : Value} {w : World} (ha : Sm a) (hb : Sm b) (hs : Sm (a * b)) (hu : BD w u a) (hv : BD w v b) :
    Calls Try.prog 89 #[.agg #[.bool false, u], .agg #[.bool false, v]] w fun e w' => ∃ A m c, e = .returned (.agg #[.bool false, .slice A m c]) ∧ BD w' (.slice A m c) (a * b) ∧ Below w.heap.size w w' :=
  rtimes_any hu hv (Nat.le_trans (Nat.add_le_add ha hb) (by decide)) hs
theorem ofN_any {x : Nat} (h : x ≤ 9223372036854775807) (w : World) :
    Calls Try.prog 74 #[.int .i64 x] w fun e w' => ∃ A m c, e = .returned (.agg #[.bool false, .slice A m c]) ∧ BD w' (.slice A m c) x ∧ Below w.heap.size w w' := by
  have := big_of0 (x := (x : Int)) (by omega) (by omega) w
  rwa [Int.toNat_natCast] at this
theorem varN_eq {s t o : Nat} (h0 : 0 < s) (h : o * o ≤ s * t) : ((evenN ((s * t - o * o) * 100) (s * s) : Nat) : Int) = evenF (((s : Int) * t - o * o) * 100) (s * s) := by
  rw [evenN_eq _ (Nat.mul_pos h0 h0)]
  congr 1
  · rw [Int.natCast_mul, Int.ofNat_sub h]
    push_cast
    rfl
set_option maxHeartbeats 8000000 in
set_option maxRecDepth 100000 in
theorem rvariance_any (w : World) (xs : List Int) (hl : xs.length = 64) :
    Calls Try.prog 47 #[.agg (ints xs).toArray] w fun e w' => e = .returned (.tuple #[.int .i64 (varV xs), .int .i64 (cntE xs)]) ∧ Below w.heap.size w w' := by
  have b1 := below_alloc (Below.refl w.heap.size w) (.cells (ints xs).toArray 67)
  have q1 := Blk.new w (ints xs) 67
  have HT := Aside0.mk (fun W => rfirst_any W xs hl)
  have H1 := Aside0.mk (And.intro b1 q1)
  have HL := Aside0.mk (i67l hl)
  have HLEN := Aside0.mk hl
  clear b1 q1 hl
  by_cases h0 : cntE xs = 0
  · have hb := moments_bd HLEN.out h0
    have HSU := Aside0.mk (fun W => rmoments_any W xs HLEN.out (totB_ok (cntE_zero h0).1))
    have HV : Aside0 (cntV xs = xs.sum ∧ varV xs = evenF ((xs.sum * twoF xs 64 - oneF xs 64 * oneF xs 64) * 100) (xs.sum * xs.sum)) := ⟨by unfold cntV; rw [if_pos h0], by unfold varV; rw [if_pos h0]⟩
    rw [HV.out.1, h0] at HT
    obtain ⟨⟨hs1, hs2⟩, ⟨ho1, ho2⟩, ⟨ht1, ht2⟩, hc1, hc2, hc3, hc4⟩ := hb
    have HR := Aside0.mk (And.intro HV.out.2 h0)
    clear h0 HV
    generalize xs.sum = s at *
    generalize oneF xs 64 = o at *
    generalize twoF xs 64 = t at *
    obtain ⟨s, rfl⟩ : ∃ n : Nat, s = n := ⟨s.toNat, by omega⟩
    obtain ⟨o, rfl⟩ : ∃ n : Nat, o = n := ⟨o.toNat, by omega⟩
    obtain ⟨t, rfl⟩ : ∃ n : Nat, t = n := ⟨t.toNat, by omega⟩
    have hoo : o * o ≤ s * t := Int.ofNat_le.1 (by rw [Int.natCast_mul, Int.natCast_mul]; exact hc1)
    have hst : s * t ≤ 3969 * (s * s) := Int.ofNat_le.1 (by rw [Int.natCast_mul, Int.natCast_mul, Int.natCast_mul]; exact hc2)
    have hss : s * s ≤ 1099511627776 := Int.ofNat_le.1 (by rw [Int.natCast_mul]; exact hc3)
    have hs0 : 0 < s := by omega
    rw [← varN_eq hs0 hoo] at HR
    have HOS := Aside0.mk (ofN_any (x := s) (by omega))
    have HOO := Aside0.mk (ofN_any (x := o) (by omega))
    have HOT := Aside0.mk (ofN_any (x := t) (by omega))
    have HOH : Aside0 (∀ w : World, Calls Try.prog 74 #[.int .i64 100] w fun e w' => ∃ A m c, e = .returned (.agg #[.bool false, .slice A m c]) ∧ BD w' (.slice A m c) 100 ∧ Below w.heap.size w w') := ⟨fun W => ofN_any (x := 100) (by decide) W⟩
    have HTST := Aside0.mk (fun (u v : Value) (W : World) => rtimesS_any (a := s) (b := t) (u := u) (v := v) (w := W) (Sm_small (by omega)) (Sm_small (by omega)) (Sm_small (by omega)))
    have HTOO := Aside0.mk (fun (u v : Value) (W : World) => rtimesS_any (a := o) (b := o) (u := u) (v := v) (w := W) (Sm_small (by omega)) (Sm_small (by omega)) (Sm_small (by omega)))
    have HTSS := Aside0.mk (fun (u v : Value) (W : World) => rtimesS_any (a := s) (b := s) (u := u) (v := v) (w := W) (Sm_small (by omega)) (Sm_small (by omega)) (Sm_small (by omega)))
    have HTH := Aside0.mk (fun (u v : Value) (W : World) => rtimesS_any (a := s * t - o * o) (b := 100) (u := u) (v := v) (w := W) (Sm_small (by omega)) (Sm_small (by omega)) (Sm_small (by omega)))
    have HMI := Aside0.mk (fun (u v : Value) (W : World) (hu : BD W u (s * t)) (hv : BD W v (o * o)) => rminus_any hu hv (Sm_small (by omega)) hoo)
    have HRO := Aside0.mk (fun (u v : Value) (W : World) (hu : BD W u ((s * t - o * o) * 100)) (hv : BD W v (s * s)) => rounded_any hu hv (Sm_small (by omega)) (Nat.mul_pos hs0 hs0) (Sm_small9 (by omega)))
    have hev := evenN_le (a := (s * t - o * o) * 100) (b := s * s) (K := 396900) (Nat.mul_pos hs0 hs0) (by omega)
    have HWI := Aside0.mk (fun (u : Value) (W : World) (hu : BD W u (evenN ((s * t - o * o) * 100) (s * s))) => big_within0 (most := 1125899906842624) hu (Sm_small (by omega)) (by decide) (by decide) (by omega))
    obtain ⟨r, hr⟩ : ∃ r, r = evenN ((s * t - o * o) * 100) (s * s) := ⟨_, rfl⟩
    rw [← hr] at HRO HWI HR
    clear hr hoo hst hss hs0 hs1 hs2 ho1 ho2 ht1 ht2 hc1 hc2 hc3 hc4 hev
    generalize (s * t - o * o) * 100 = X3 at *
    generalize s * t - o * o = X2 at *
    generalize s * t = X1 at *
    generalize o * o = X4 at *
    generalize s * s = X5 at *
    go_enter Try.func47, Try.ntmps47
    go_upto_region 5 with (first
      | (refine wpList_load_mid rfl 67 (.tmp 1) rfl _ _ rfl (ints xs) _ (by first | exact H1.out.2.range | exact HB2.out.2.range) Try.underlying67 rfl HL.out ?_)
      | ((with_reducible refine (HT.out _).mono ?_); rintro e w2 ⟨rfl, hb2⟩; have HB2 := Aside0.mk (And.intro (below_step H1.out.1 hb2) (H1.out.2.below hb2)); clear hb2)
      | ((with_reducible refine (HSU.out _).mono ?_); rintro e w3 ⟨rfl, hb3⟩; have H3 := Aside0.mk (below_step HB2.out.1 hb3); clear hb3))
    go_upto_region 6 with (first
      | (have hx := H9.out; (with_reducible refine (HMI.out _ _ _ hx.2.1 hx.2.2).mono ?_); rintro e w10 ⟨A10, m10, c10, rfl, hd, hb⟩; have H10 := Aside0.mk (And.intro (below_step hx.1 hb) hd); clear hd hb hx)
      | (have hx := H8.out; (with_reducible refine (HTOO.out _ _ _ hx.2.2.1 hx.2.2.2).mono ?_); rintro e w9 ⟨A9, m9, c9, rfl, hd, hb⟩; have H9 := Aside0.mk (And.intro (below_step hx.1 hb) (And.intro (hx.2.1.below hb) hd)); clear hd hb hx)
      | (have hx := H7.out; (with_reducible refine (HOO.out _).mono ?_); rintro e w8 ⟨A8, m8, c8, rfl, hd, hb⟩; have H8 := Aside0.mk (And.intro (below_step hx.1 hb) (And.intro (hx.2.1.below hb) (And.intro (hx.2.2.below hb) hd))); clear hd hb hx)
      | (have hx := H6.out; (with_reducible refine (HOO.out _).mono ?_); rintro e w7 ⟨A7, m7, c7, rfl, hd, hb⟩; have H7 := Aside0.mk (And.intro (below_step hx.1 hb) (And.intro (hx.2.below hb) hd)); clear hd hb hx)
      | (have hx := H5.out; (with_reducible refine (HTST.out _ _ _ hx.2.1 hx.2.2).mono ?_); rintro e w6 ⟨A6, m6, c6, rfl, hd, hb⟩; have H6 := Aside0.mk (And.intro (below_step hx.1 hb) hd); clear hd hb hx)
      | (have hx := H4.out; (with_reducible refine (HOT.out _).mono ?_); rintro e w5 ⟨A5, m5, c5, rfl, hd, hb⟩; have H5 := Aside0.mk (And.intro (below_step hx.1 hb) (And.intro (hx.2.below hb) hd)); clear hd hb hx)
      | (have hx := H3.out; (with_reducible refine (HOS.out _).mono ?_); rintro e w4 ⟨A4, m4, c4, rfl, hd, hb⟩; have H4 := Aside0.mk (And.intro (below_step hx hb) hd); clear hd hb hx))
    obtain ⟨b8, hb8⟩ : ∃ z, z = w10.heap.size := ⟨_, rfl⟩
    have hx := below_alloc (Below.refl w10.heap.size w10) (.cells #[.bool false, .slice A10 m10 c10] 117)
    have hq := Blk.new w10 [.bool false, .slice A10 m10 c10] 117
    rw [← hb8] at hq ⊢
    have H11 := Aside0.mk (And.intro (below_step H10.out.1 hx) (And.intro (H10.out.2.below hx) hq))
    clear hx hq hb8
    generalize w10.alloc (.cells #[.bool false, .slice A10 m10 c10] 117) = w11 at H11 ⊢
    go_upto_region 7 with (first
      | (have hx := H13.out; (with_reducible refine (HTSS.out _ _ _ hx.2.2.2.1 hx.2.2.2.2).mono ?_); rintro e w14 ⟨A14, m14, c14, rfl, hd, hb⟩; have H14 := Aside0.mk (And.intro (below_step hx.1 hb) (And.intro (hx.2.1.below hb) (And.intro (hx.2.2.1.below hb) hd))); clear hd hb hx)
      | (have hx := H12.out; (with_reducible refine (HOS.out _).mono ?_); rintro e w13 ⟨A13, m13, c13, rfl, hd, hb⟩; have H13 := Aside0.mk (And.intro (below_step hx.1 hb) (And.intro (hx.2.1.below hb) (And.intro (hx.2.2.1.below hb) (And.intro (hx.2.2.2.below hb) hd)))); clear hd hb hx)
      | (have hx := H11.out; (with_reducible refine (HOS.out _).mono ?_); rintro e w12 ⟨A12, m12, c12, rfl, hd, hb⟩; have H12 := Aside0.mk (And.intro (below_step hx.1 hb) (And.intro (hx.2.1.below hb) (And.intro (hx.2.2.below hb) hd))); clear hd hb hx))
    obtain ⟨b9, hb9⟩ : ∃ z, z = w14.heap.size := ⟨_, rfl⟩
    have hx := below_alloc (Below.refl w14.heap.size w14) (.cells #[.bool false, .slice A14 m14 c14] 117)
    have hq := Blk.new w14 [.bool false, .slice A14 m14 c14] 117
    rw [← hb9] at hq ⊢
    have H15 := Aside0.mk (And.intro (below_step H14.out.1 hx) (And.intro (H14.out.2.1.below hx) (And.intro (H14.out.2.2.1.below hx) (And.intro (H14.out.2.2.2.below hx) hq))))
    clear hx hq hb9
    generalize w14.alloc (.cells #[.bool false, .slice A14 m14 c14] 117) = w15 at H15 ⊢
    have HS15 := Aside0.mk (fun (W : World) (hW : Below w15.heap.size w15 W) => (⟨⟨hW⟩, (H15.out.2.2.1.below hW).at_ (i := 0) rfl, (H15.out.2.2.1.below hW).at_ (i := 1) rfl, (H15.out.2.2.2.2.below hW).at_ (i := 0) rfl, (H15.out.2.2.2.2.below hW).at_ (i := 1) rfl⟩ : Aside0 (Below w15.heap.size w15 W) ∧ W.cell? ⟨b8, 0, none⟩ = some (.bool false) ∧ W.cell? ⟨b8, 1, none⟩ = some (.slice A10 m10 c10) ∧ W.cell? ⟨b9, 0, none⟩ = some (.bool false) ∧ W.cell? ⟨b9, 1, none⟩ = some (.slice A14 m14 c14)))
    clear H3 H4 H5 H6 H7 H8 H9 H10 H11 H12 H13 H14 HOS HOO HOT HTST HTOO HTSS HMI
    go_region_held3 (fun W => Aside0 (Below w15.heap.size w15 W) ∧ W.cell? ⟨b8, 0, none⟩ = some (.bool false) ∧ W.cell? ⟨b8, 1, none⟩ = some (.slice A10 m10 c10) ∧ W.cell? ⟨b9, 0, none⟩ = some (.bool false) ∧ W.cell? ⟨b9, 1, none⟩ = some (.slice A14 m14 c14))
      ((refine HS15.out _ ?_; repeat (with_reducible (first | exact Below.refl _ _ | exact HB19.out | exact HB18.out | exact HB17.out | exact HB16.out | refine below_drew ?_))))
      (first
        | ((with_reducible refine (HOH.out _).mono ?_); rintro e w16 ⟨A16, m16, c16, rfl, hd, hb⟩; have HB16 := Aside0.mk (below_step (hbU (by assumption)) hb); have HD16 := Aside0.mk hd; clear hd hb)
        | ((with_reducible refine (HTH.out _ _ _ (H15.out.2.1.below (hbU (by assumption))) (HD16.out.below (by first | exact Below.refl _ _ | exact below_drew (Below.refl _ _) | exact below_drew (below_drew (Below.refl _ _)) | exact below_drew (below_drew (below_drew (Below.refl _ _)))))).mono ?_); rintro e w17 ⟨A17, m17, c17, rfl, hd, hb⟩; have HB17 := Aside0.mk (below_step (hbU (by assumption)) hb); have HD17 := Aside0.mk hd; clear hd hb)
        | ((with_reducible refine (HRO.out _ _ _ (HD17.out.below (by first | exact Below.refl _ _ | exact below_drew (Below.refl _ _) | exact below_drew (below_drew (Below.refl _ _)) | exact below_drew (below_drew (below_drew (Below.refl _ _))))) (H15.out.2.2.2.1.below (hbU (by assumption)))).mono ?_); rintro e w18 ⟨A18, m18, c18, rfl, hd, hb⟩; have HB18 := Aside0.mk (below_step (hbU (by assumption)) hb); have HD18 := Aside0.mk hd; clear hd hb)
        | ((with_reducible refine (HWI.out _ _ (HD18.out.below (by first | exact Below.refl _ _ | exact below_drew (Below.refl _ _) | exact below_drew (below_drew (Below.refl _ _)) | exact below_drew (below_drew (below_drew (Below.refl _ _)))))).mono ?_); rintro e w19 ⟨rfl, hb⟩; have HB19 := Aside0.mk (below_step (hbU (by assumption)) hb); clear hb))
    go_wp2_with fail
    go_ret2
    exact ⟨ret2v (show Value.int .i64 (r : Int) = _ by rw [HR.out.1]) (show Value.int .i64 0 = _ by rw [HR.out.2]), below_step H15.out.1 HB19.out⟩
  · have HV : Aside0 (cntV xs = 0 ∧ varV xs = 0) := ⟨by unfold cntV; rw [if_neg h0], by unfold varV; rw [if_neg h0]⟩
    rw [HV.out.1] at HT
    obtain ⟨c, hc⟩ : ∃ c, c = cntE xs := ⟨_, rfl⟩
    rw [← hc] at HT h0
    have HCC := Aside0.mk hc; clear hc
    have hcb : (c != 0) = true := by simpa using h0
    go_enter Try.func47, Try.ntmps47
    go_wp2_with (first
      | (refine wpList_load_mid rfl 67 (.tmp 1) rfl _ _ rfl (ints xs) _ H1.out.2.range Try.underlying67 rfl HL.out ?_)
      | ((with_reducible refine (HT.out _).mono ?_); rintro e w2 ⟨rfl, hb2⟩; have HB2 := Aside0.mk (below_step H1.out.1 hb2); clear hb2))
    go_ret2
    exact ⟨ret2v (show Value.int .i64 0 = _ by rw [HV.out.2]) (show Value.int .i64 c = _ by rw [HCC.out]), HB2.out⟩

end Go.Proofs.Ythkfahkkcjagdaa
end
section
namespace Go.Proofs.Ythkfahkkcjagdaa
open Go.RowKit Go.Proofs.YthkfahkkcjagdaaW.PrintWords Go.Proofs.YthkfahkkcjagdaaW.PrintMore Go.Proofs.YthkfahkkcjagdaaW.PrintLast
set_option linter.unusedSimpArgs false
set_option linter.unusedVariables false

theorem below_drewN {N : Nat} {w W : World} (h : Below N w W) (n : Nat) : Below N w (W.drewN n) := ⟨h.os, h.tape, h.output, h.size, h.block⟩
set_option maxHeartbeats 4000000 in
theorem rvalid_any (w : World) (n d : Int) : Calls Try.prog 90 #[.agg #[.int .i64 n, .int .i64 d]] w fun e w' => e = .returned (.bool (vfr n d)) ∧ Below w.heap.size w w' := by
  have HB := Aside0.mk (below_alloc (Below.refl w.heap.size w) (.cells #[.int .i64 n, .int .i64 d] 57))
  have q := Blk.new w [.int .i64 n, .int .i64 d] 57
  have s0 := q.at_ (i := 0) rfl
  have s1 := q.at_ (i := 1) rfl
  clear q
  obtain ⟨V, hV⟩ : ∃ V, V = vfr n d := ⟨_, rfl⟩
  rw [← hV]
  have HV := Aside0.mk hV
  clear hV
  by_cases h1 : d < 1
  · have e : V = false := by rw [HV.out]; unfold vfr; exact decide_eq_false (by omega)
    subst e
    have d1 : decide (d < 1) = true := decide_eq_true h1
    go_enter Try.func90, Try.ntmps90
    go_wp2_with fail
    go_ret
    exact ⟨rfl, HB.out⟩
  have d1 : decide (d < 1) = false := decide_eq_false h1
  by_cases h2 : d > 1048576
  · have e : V = false := by rw [HV.out]; unfold vfr; exact decide_eq_false (by omega)
    subst e
    have d2 : decide (d > 1048576) = true := decide_eq_true h2
    go_enter Try.func90, Try.ntmps90
    go_wp2_with fail
    go_ret
    exact ⟨rfl, HB.out⟩
  have d2 : decide (d > 1048576) = false := decide_eq_false h2
  by_cases h3 : n < -1099511627776
  · have e : V = false := by rw [HV.out]; unfold vfr; exact decide_eq_false (by omega)
    subst e
    have d3 : decide (n < -1099511627776) = true := decide_eq_true h3
    go_enter Try.func90, Try.ntmps90
    go_wp2_with fail
    go_ret
    exact ⟨rfl, HB.out⟩
  have d3 : decide (n < -1099511627776) = false := decide_eq_false h3
  by_cases h4 : n > 1099511627776
  · have e : V = false := by rw [HV.out]; unfold vfr; exact decide_eq_false (by omega)
    subst e
    have d4 : decide (n > 1099511627776) = true := decide_eq_true h4
    go_enter Try.func90, Try.ntmps90
    go_wp2_with fail
    go_ret
    exact ⟨rfl, HB.out⟩
  have d4 : decide (n > 1099511627776) = false := decide_eq_false h4
  have HG : Aside0 (∀ x : Nat, x = Nat.gcd n.natAbs d.toNat → ((x : Int) == 1) = V) := ⟨fun x hx => by
    rw [HV.out]
    unfold vfr
    by_cases h : x = 1
    · rw [h, decide_eq_true ⟨by omega, by omega, by omega, by omega, by rw [← hx]; exact h⟩]; rfl
    · rw [decide_eq_false (fun hh => h (by rw [hx]; exact hh.2.2.2.2))]
      rw [beq_eq_false_iff_ne]
      omega⟩
  obtain ⟨D, rfl⟩ : ∃ D : Nat, d = D := ⟨d.toNat, by omega⟩
  rw [Int.toNat_natCast] at HG
  clear HV
  have hLOOP : True := trivial
  by_cases hn : n < 0
  · have dn : decide (n < 0) = true := decide_eq_true hn
    obtain ⟨A, hA⟩ : ∃ A : Nat, -n = A := ⟨(-n).toNat, by omega⟩
    have kn : IntKind.i64.wrap (-n) = (A : Int) := by rw [hA]; exact IntWalk.i64_in _ (by omega)
    have hA2 : A ≤ 1099511627776 := by omega
    have hD2 : D ≤ 1048576 := by omega
    have hNA : n.natAbs = A := by omega
    rw [hNA] at HG
    clear hA hNA h1 h2 h3 h4 hn
    go_enter Try.func90, Try.ntmps90
    go_wp2_with fail
    go_quiet (fail)
    go_wp2_with fail
    clear s0 s1
    have HB7 := Aside0.mk (below_drewN HB.out nq)
    generalize (w.alloc (.cells #[.int .i64 n, .int .i64 (D : Int)] 57)).drewN nq = w7 at HB7 ⊢
    go_loopw [3, 4] (fun v3 v4 wr => ∃ x y : Nat, v3 = .int .i64 x ∧ v4 = .int .i64 y ∧ x ≤ 1099511627776 ∧ y ≤ 1099511627776 ∧ Aside0 (Nat.gcd x y = Nat.gcd A D ∧ Below w.heap.size w wr)) (fun _ v4 _ => (intOf v4).toNat)
    case atStart => exact ⟨A, D, rfl, rfl, by omega, by omega, ⟨rfl, HB7.out⟩⟩
    case round =>
      obtain ⟨x, y, rfl, rfl, hx, hy, HXY⟩ := hrel
      by_cases hy0 : 0 < y
      · have dy : decide ((y : Int) > 0) = true := decide_eq_true (by omega)
        have hyi : (0 : Int) < y := by omega
        obtain ⟨r, hr⟩ : ∃ r, r = x % y := ⟨_, rfl⟩
        have hry : r < y := by rw [hr]; exact Nat.mod_lt _ hy0
        have m1 : Int.tmod (x : Int) (y : Int) = (r : Int) := by rw [hr]; rfl
        have m2 : (x : Int) % (y : Int) = (r : Int) := by rw [hr]; rfl
        have HN : Aside0 (Nat.gcd y r = Nat.gcd A D) := ⟨by rw [← HXY.out.1, hr, Nat.gcd_comm x y, Nat.gcd_rec y x, Nat.gcd_comm]⟩
        clear hr
        go_upto_region 7 with fail
        go_quiet (fail)
        go_wp2_with fail
        go_roundw
        case rel => exact ⟨y, r, rfl, rfl, by omega, by omega, ⟨HN.out, below_drewN HXY.out.2 nq⟩⟩
        case measure => simp [intOf]; omega
      · have dy : decide ((y : Int) > 0) = false := decide_eq_false (by omega)
        have hyi : ¬ (0 : Int) < y := by omega
        have hr := HG.out x (by rw [← HXY.out.1, show y = 0 by omega, Nat.gcd_zero_right])
        go_wp2_with fail
        go_ret
        exact ⟨rfl, HXY.out.2⟩
  · have dn : decide (n < 0) = false := decide_eq_false hn
    obtain ⟨A, rfl⟩ : ∃ A : Nat, n = A := ⟨n.toNat, by omega⟩
    have hA2 : A ≤ 1099511627776 := by omega
    have hD2 : D ≤ 1048576 := by omega
    have hNA : ((A : Nat) : Int).natAbs = A := by omega
    rw [hNA] at HG
    clear hNA h1 h2 h3 h4 hn
    go_enter Try.func90, Try.ntmps90
    go_wp2_with fail
    go_quiet (fail)
    go_wp2_with fail
    clear s0 s1
    have HB7 := Aside0.mk (below_drewN HB.out nq)
    generalize (w.alloc (.cells #[.int .i64 (A : Int), .int .i64 (D : Int)] 57)).drewN nq = w7 at HB7 ⊢
    go_loopw [3, 4] (fun v3 v4 wr => ∃ x y : Nat, v3 = .int .i64 x ∧ v4 = .int .i64 y ∧ x ≤ 1099511627776 ∧ y ≤ 1099511627776 ∧ Aside0 (Nat.gcd x y = Nat.gcd A D ∧ Below w.heap.size w wr)) (fun _ v4 _ => (intOf v4).toNat)
    case atStart => exact ⟨A, D, rfl, rfl, by omega, by omega, ⟨rfl, HB7.out⟩⟩
    case round =>
      obtain ⟨x, y, rfl, rfl, hx, hy, HXY⟩ := hrel
      by_cases hy0 : 0 < y
      · have dy : decide ((y : Int) > 0) = true := decide_eq_true (by omega)
        have hyi : (0 : Int) < y := by omega
        obtain ⟨r, hr⟩ : ∃ r, r = x % y := ⟨_, rfl⟩
        have hry : r < y := by rw [hr]; exact Nat.mod_lt _ hy0
        have m1 : Int.tmod (x : Int) (y : Int) = (r : Int) := by rw [hr]; rfl
        have m2 : (x : Int) % (y : Int) = (r : Int) := by rw [hr]; rfl
        have HN : Aside0 (Nat.gcd y r = Nat.gcd A D) := ⟨by rw [← HXY.out.1, hr, Nat.gcd_comm x y, Nat.gcd_rec y x, Nat.gcd_comm]⟩
        clear hr
        go_upto_region 7 with fail
        go_quiet (fail)
        go_wp2_with fail
        go_roundw
        case rel => exact ⟨y, r, rfl, rfl, by omega, by omega, ⟨HN.out, below_drewN HXY.out.2 nq⟩⟩
        case measure => simp [intOf]; omega
      · have dy : decide ((y : Int) > 0) = false := decide_eq_false (by omega)
        have hyi : ¬ (0 : Int) < y := by omega
        have hr := HG.out x (by rw [← HXY.out.1, show y = 0 by omega, Nat.gcd_zero_right])
        go_wp2_with fail
        go_ret
        exact ⟨rfl, HXY.out.2⟩
end Go.Proofs.Ythkfahkkcjagdaa
end
section
namespace Go.Proofs.Ythkfahkkcjagdaa
open Go.RowKit Go.Proofs.YthkfahkkcjagdaaW.PrintWords Go.Proofs.YthkfahkkcjagdaaW.PrintMore Go.Proofs.YthkfahkkcjagdaaW.PrintLast
set_option linter.unusedSimpArgs false
set_option linter.unusedVariables false

set_option maxHeartbeats 8000000 in
set_option maxRecDepth 100000 in
theorem rquan_any (w : World) (xs : List Int) (hl : xs.length = 64) (a b : Int) :
    Calls Try.prog 48 #[.agg (ints xs).toArray, .agg #[.int .i64 a, .int .i64 b]] w fun e w' => e = .returned (.tuple #[.int .i64 (quanV xs a b), .int .i64 (quanE xs a b)]) ∧ Below w.heap.size w w' := by
  have b1 := below_alloc (below_alloc (Below.refl w.heap.size w) (.cells (ints xs).toArray 67)) (.cells #[.int .i64 a, .int .i64 b] 57)
  have q1 := (Blk.new w (ints xs) 67).alloc (.cells #[.int .i64 a, .int .i64 b] 57)
  have q2 := Blk.new (w.alloc (.cells (ints xs).toArray 67)) [.int .i64 a, .int .i64 b] 57
  have e1 : (w.alloc (.cells (ints xs).toArray 67)).heap.size = w.heap.size + 1 := by simp
  rw [e1] at q2
  have HT := Aside0.mk (fun W => rsum_any W xs hl)
  have HFI := Aside0.mk (fun W => rfirst_any W xs hl)
  have HVA := Aside0.mk (fun W => rvalid_any W a b)
  have H1 := Aside0.mk (And.intro b1 (And.intro q1 q2))
  have HL := Aside0.mk (i67l hl)
  have HLEN := Aside0.mk hl
  clear b1 q1 q2 e1 hl
  obtain ⟨T, hT⟩ : ∃ z, z = totB xs := ⟨_, rfl⟩
  obtain ⟨F, hF⟩ : ∃ z, z = totF xs := ⟨_, rfl⟩
  obtain ⟨V, hV⟩ : ∃ z, z = vfr a b := ⟨_, rfl⟩
  rw [← hT, ← hF] at HT
  rw [← hV] at HVA
  have HTF := Aside0.mk (And.intro hT (And.intro hF hV))
  clear hT hF hV
  cases T with
  | false =>
    have HQ : Aside0 (quanE xs a b = 2 ∧ quanV xs a b = 0) := ⟨by
      have : quanE xs a b = 2 := by unfold quanE; rw [if_neg (by rw [← HTF.out.1]; simp)]
      exact ⟨this, by unfold quanV; rw [if_neg (by rw [this]; decide)]⟩⟩
    go_enter Try.func48, Try.ntmps48
    go_wp2_with (first
      | (refine wpList_load_mid rfl 67 (.tmp 2) rfl _ _ rfl (ints xs) _ (by first | exact H3.out.2.1.range | exact H1.out.2.1.range) Try.underlying67 rfl HL.out ?_)
      | ((with_reducible refine (HT.out _).mono ?_); rintro e w2 ⟨rfl, hb2⟩; have H2 := Aside0.mk (And.intro (below_step H1.out.1 hb2) (And.intro (H1.out.2.1.below hb2) (H1.out.2.2.below hb2))); have s0 := H2.out.2.2.at_ (i := 0) rfl; have s1 := H2.out.2.2.at_ (i := 1) rfl; clear hb2)
      | ((with_reducible refine (HVA.out _).mono ?_); rintro e w3 ⟨rfl, hb3⟩; have H3 := Aside0.mk (And.intro (below_step H2.out.1 hb3) (And.intro (H2.out.2.1.below hb3) (H2.out.2.2.below hb3))); have t0 := H3.out.2.2.at_ (i := 0) rfl; have t1 := H3.out.2.2.at_ (i := 1) rfl; clear hb3 s0 s1)
      | ((with_reducible refine (HFI.out _).mono ?_); rintro e w4 ⟨rfl, hb4⟩; have H4 := Aside0.mk (And.intro (below_step H3.out.1 hb4) (And.intro (H3.out.2.1.below hb4) (H3.out.2.2.below hb4))); clear hb4))
    go_ret2
    exact ⟨ret2v (show Value.int .i64 0 = _ by rw [HQ.out.2]) (show Value.int .i64 2 = _ by rw [HQ.out.1]), H2.out.1⟩
  | true =>
    cases V with
    | false =>
      have HQ : Aside0 (quanE xs a b = 2 ∧ quanV xs a b = 0) := ⟨by
        have : quanE xs a b = 2 := by unfold quanE; rw [if_neg (by rw [← HTF.out.2.2]; simp)]
        exact ⟨this, by unfold quanV; rw [if_neg (by rw [this]; decide)]⟩⟩
      go_enter Try.func48, Try.ntmps48
      go_wp2_with (first
        | (refine wpList_load_mid rfl 67 (.tmp 2) rfl _ _ rfl (ints xs) _ (by first | exact H3.out.2.1.range | exact H1.out.2.1.range) Try.underlying67 rfl HL.out ?_)
        | ((with_reducible refine (HT.out _).mono ?_); rintro e w2 ⟨rfl, hb2⟩; have H2 := Aside0.mk (And.intro (below_step H1.out.1 hb2) (And.intro (H1.out.2.1.below hb2) (H1.out.2.2.below hb2))); have s0 := H2.out.2.2.at_ (i := 0) rfl; have s1 := H2.out.2.2.at_ (i := 1) rfl; clear hb2)
        | ((with_reducible refine (HVA.out _).mono ?_); rintro e w3 ⟨rfl, hb3⟩; have H3 := Aside0.mk (And.intro (below_step H2.out.1 hb3) (And.intro (H2.out.2.1.below hb3) (H2.out.2.2.below hb3))); have t0 := H3.out.2.2.at_ (i := 0) rfl; have t1 := H3.out.2.2.at_ (i := 1) rfl; clear hb3 s0 s1)
        | ((with_reducible refine (HFI.out _).mono ?_); rintro e w4 ⟨rfl, hb4⟩; have H4 := Aside0.mk (And.intro (below_step H3.out.1 hb4) (And.intro (H3.out.2.1.below hb4) (H3.out.2.2.below hb4))); clear hb4))
      go_ret2
      exact ⟨ret2v (show Value.int .i64 0 = _ by rw [HQ.out.2]) (show Value.int .i64 2 = _ by rw [HQ.out.1]), H3.out.1⟩
    | true =>
      by_cases ha : a < 0
      · have da : decide (a < 0) = true := decide_eq_true ha
        have HQ : Aside0 (quanE xs a b = 2 ∧ quanV xs a b = 0) := ⟨by
          have : quanE xs a b = 2 := by unfold quanE; rw [if_neg (by omega)]
          exact ⟨this, by unfold quanV; rw [if_neg (by rw [this]; decide)]⟩⟩
        go_enter Try.func48, Try.ntmps48
        go_wp2_with (first
          | (refine wpList_load_mid rfl 67 (.tmp 2) rfl _ _ rfl (ints xs) _ (by first | exact H3.out.2.1.range | exact H1.out.2.1.range) Try.underlying67 rfl HL.out ?_)
          | ((with_reducible refine (HT.out _).mono ?_); rintro e w2 ⟨rfl, hb2⟩; have H2 := Aside0.mk (And.intro (below_step H1.out.1 hb2) (And.intro (H1.out.2.1.below hb2) (H1.out.2.2.below hb2))); have s0 := H2.out.2.2.at_ (i := 0) rfl; have s1 := H2.out.2.2.at_ (i := 1) rfl; clear hb2)
          | ((with_reducible refine (HVA.out _).mono ?_); rintro e w3 ⟨rfl, hb3⟩; have H3 := Aside0.mk (And.intro (below_step H2.out.1 hb3) (And.intro (H2.out.2.1.below hb3) (H2.out.2.2.below hb3))); have t0 := H3.out.2.2.at_ (i := 0) rfl; have t1 := H3.out.2.2.at_ (i := 1) rfl; clear hb3 s0 s1)
          | ((with_reducible refine (HFI.out _).mono ?_); rintro e w4 ⟨rfl, hb4⟩; have H4 := Aside0.mk (And.intro (below_step H3.out.1 hb4) (And.intro (H3.out.2.1.below hb4) (H3.out.2.2.below hb4))); clear hb4))
        go_ret2
        exact ⟨ret2v (show Value.int .i64 0 = _ by rw [HQ.out.2]) (show Value.int .i64 2 = _ by rw [HQ.out.1]), H3.out.1⟩
      · have da : decide (a < 0) = false := decide_eq_false ha
        by_cases hab : a > b
        · have dab : decide (a > b) = true := decide_eq_true hab
          have dab2 : decide (b < a) = true := decide_eq_true hab
          have HQ : Aside0 (quanE xs a b = 2 ∧ quanV xs a b = 0) := ⟨by
            have : quanE xs a b = 2 := by unfold quanE; rw [if_neg (by omega)]
            exact ⟨this, by unfold quanV; rw [if_neg (by rw [this]; decide)]⟩⟩
          go_enter Try.func48, Try.ntmps48
          go_wp2_with (first
            | (refine wpList_load_mid rfl 67 (.tmp 2) rfl _ _ rfl (ints xs) _ (by first | exact H3.out.2.1.range | exact H1.out.2.1.range) Try.underlying67 rfl HL.out ?_)
            | ((with_reducible refine (HT.out _).mono ?_); rintro e w2 ⟨rfl, hb2⟩; have H2 := Aside0.mk (And.intro (below_step H1.out.1 hb2) (And.intro (H1.out.2.1.below hb2) (H1.out.2.2.below hb2))); have s0 := H2.out.2.2.at_ (i := 0) rfl; have s1 := H2.out.2.2.at_ (i := 1) rfl; clear hb2)
            | ((with_reducible refine (HVA.out _).mono ?_); rintro e w3 ⟨rfl, hb3⟩; have H3 := Aside0.mk (And.intro (below_step H2.out.1 hb3) (And.intro (H2.out.2.1.below hb3) (H2.out.2.2.below hb3))); have t0 := H3.out.2.2.at_ (i := 0) rfl; have t1 := H3.out.2.2.at_ (i := 1) rfl; clear hb3 s0 s1)
            | ((with_reducible refine (HFI.out _).mono ?_); rintro e w4 ⟨rfl, hb4⟩; have H4 := Aside0.mk (And.intro (below_step H3.out.1 hb4) (And.intro (H3.out.2.1.below hb4) (H3.out.2.2.below hb4))); clear hb4))
          go_ret2
          exact ⟨ret2v (show Value.int .i64 0 = _ by rw [HQ.out.2]) (show Value.int .i64 2 = _ by rw [HQ.out.1]), H3.out.1⟩
        · have dab : decide (a > b) = false := decide_eq_false hab
          have dab2 : decide (b < a) = false := decide_eq_false hab
          have hFs : F = xs.sum := by rw [HTF.out.2.1]; exact totF_of xs HTF.out.1.symm
          have hQ0 : quanE xs a b = if xs.sum = 0 then 5 else 0 := by unfold quanE; rw [if_pos ⟨HTF.out.1.symm, HTF.out.2.2.symm, by omega, by omega⟩]
          have hC0 : cntE xs = if xs.sum = 0 then 5 else 0 := by unfold cntE; rw [if_pos HTF.out.1.symm]
          by_cases hz : xs.sum = 0
          · have HQ : Aside0 (quanE xs a b = 5 ∧ quanV xs a b = 0) := ⟨by
              have : quanE xs a b = 5 := by rw [hQ0, if_pos hz]
              exact ⟨this, by unfold quanV; rw [if_neg (by rw [this]; decide)]⟩⟩
            rw [if_pos hz] at hC0
            have hV0 : cntV xs = 0 := by unfold cntV; rw [if_neg (by rw [hC0]; decide)]
            rw [hC0, hV0] at HFI
            have n5 : ((5 : Int) != 0) = true := by decide
            clear hQ0 hFs hC0 hV0 hz
            go_enter Try.func48, Try.ntmps48
            go_wp2_with (first
              | (refine wpList_load_mid rfl 67 (.tmp 2) rfl _ _ rfl (ints xs) _ (by first | exact H3.out.2.1.range | exact H1.out.2.1.range) Try.underlying67 rfl HL.out ?_)
              | ((with_reducible refine (HT.out _).mono ?_); rintro e w2 ⟨rfl, hb2⟩; have H2 := Aside0.mk (And.intro (below_step H1.out.1 hb2) (And.intro (H1.out.2.1.below hb2) (H1.out.2.2.below hb2))); have s0 := H2.out.2.2.at_ (i := 0) rfl; have s1 := H2.out.2.2.at_ (i := 1) rfl; clear hb2)
              | ((with_reducible refine (HVA.out _).mono ?_); rintro e w3 ⟨rfl, hb3⟩; have H3 := Aside0.mk (And.intro (below_step H2.out.1 hb3) (And.intro (H2.out.2.1.below hb3) (H2.out.2.2.below hb3))); have t0 := H3.out.2.2.at_ (i := 0) rfl; have t1 := H3.out.2.2.at_ (i := 1) rfl; clear hb3 s0 s1)
              | ((with_reducible refine (HFI.out _).mono ?_); rintro e w4 ⟨rfl, hb4⟩; have H4 := Aside0.mk (And.intro (below_step H3.out.1 hb4) (And.intro (H3.out.2.1.below hb4) (H3.out.2.2.below hb4))); clear hb4))
            go_ret2
            exact ⟨ret2v (show Value.int .i64 0 = _ by rw [HQ.out.2]) (show Value.int .i64 5 = _ by rw [HQ.out.1]), H4.out.1⟩
          · have HQ : Aside0 (quanE xs a b = 0 ∧ quanV xs a b = qF xs a b) := ⟨by
              have : quanE xs a b = 0 := by rw [hQ0, if_neg hz]
              exact ⟨this, by unfold quanV; rw [if_pos this]⟩⟩
            rw [if_neg hz] at hC0
            have hV0 : cntV xs = F := by unfold cntV; rw [if_pos hC0, hFs]
            rw [hC0, hV0] at HFI
            have n5 : ((0 : Int) != 0) = false := by decide
            have hvb := vfr_bd HTF.out.2.2.symm
            have htb := totB_all HTF.out.1.symm
            rw [← hFs] at htb
            obtain ⟨hall, hF0, hF1⟩ := htb
            obtain ⟨hb1, hb2, _, _, _⟩ := hvb
            have HS := Aside0.mk (And.intro hFs (And.intro hall (qF_spec HLEN.out HTF.out.1.symm (a := a) (b := b) (by omega))))
            have hPF := mul_bd (x := a) (y := F) (a := 1048576) (b := 1048576) (by omega) (by omega) hF0 hF1
            obtain ⟨P2, hP2⟩ : ∃ z, z = a * F := ⟨_, rfl⟩
            rw [← hP2] at hPF
            have HP2 : Aside0 (P2 = F * a) := ⟨by rw [hP2, Int.mul_comm]⟩
            have hPQ2 := hP2.symm
            obtain ⟨hPF0, hPF1⟩ := hPF
            have kP2 : IntKind.i64.wrap P2 = P2 := IntWalk.i64_in _ (by omega)
            clear hQ0 hFs hall hP2 hC0 hV0 hz
            go_enter Try.func48, Try.ntmps48
            go_upto_region 7 with (first
              | (refine wpList_load_mid rfl 67 (.tmp 2) rfl _ _ rfl (ints xs) _ (by first | exact H3.out.2.1.range | exact H1.out.2.1.range) Try.underlying67 rfl HL.out ?_)
              | ((with_reducible refine (HT.out _).mono ?_); rintro e w2 ⟨rfl, hb2⟩; have H2 := Aside0.mk (And.intro (below_step H1.out.1 hb2) (And.intro (H1.out.2.1.below hb2) (H1.out.2.2.below hb2))); have s0 := H2.out.2.2.at_ (i := 0) rfl; have s1 := H2.out.2.2.at_ (i := 1) rfl; clear hb2)
              | ((with_reducible refine (HVA.out _).mono ?_); rintro e w3 ⟨rfl, hb3⟩; have H3 := Aside0.mk (And.intro (below_step H2.out.1 hb3) (And.intro (H2.out.2.1.below hb3) (H2.out.2.2.below hb3))); have t0 := H3.out.2.2.at_ (i := 0) rfl; have t1 := H3.out.2.2.at_ (i := 1) rfl; clear hb3 s0 s1)
              | ((with_reducible refine (HFI.out _).mono ?_); rintro e w4 ⟨rfl, hb4⟩; have H4 := Aside0.mk (And.intro (below_step H3.out.1 hb4) (And.intro (H3.out.2.1.below hb4) (H3.out.2.2.below hb4))); clear hb4))
            clear t0 t1
            go_wp2_with fail
            go_loopw [10, 11] (fun v10 v11 wr => ∃ (i : Nat) (s : Int), v11 = .int .i64 i ∧ v10 = .int .i64 s ∧ i ≤ 64 ∧ (0 ≤ s ∧ s ≤ 1048576) ∧ Aside0 (s = pre xs i ∧ ∀ j, j < i → pre xs (j + 1) * b < F * a) ∧ wr = w4) (fun _ v11 _ => 64 - (intOf v11).toNat)
            case atStart => exact ⟨0, 0, rfl, rfl, by omega, by omega, ⟨rfl, fun j hj => by omega⟩, rfl⟩
            case round =>
              obtain ⟨i, s, rfl, rfl, hi, ⟨hs0, hs1⟩, HX, rfl⟩ := hrel
              have t0 := H4.out.2.2.at_ (i := 0) rfl
              have t1 := H4.out.2.2.at_ (i := 1) rfl
              by_cases hlt : i < 64
              · have hlti : (i : Int) < 64 := by omega
                have c := H4.out.2.1.int_at (i := i) (by rw [HLEN.out]; exact hlt)
                have hps := pre_succ (xs := xs) (i := i) (by rw [HLEN.out]; exact hlt)
                rw [← HX.out.1] at hps
                have hpb := pre_bd (fun x hx => (HS.out.2.1 x hx).1) (i + 1)
                rw [← HS.out.1] at hpb
                obtain ⟨z, hz⟩ : ∃ z, z = rd xs i := ⟨_, rfl⟩
                rw [← hz] at c hps
                obtain ⟨s2, hs2⟩ : ∃ z, z = pre xs (i + 1) := ⟨_, rfl⟩
                rw [← hs2] at hps hpb
                have HSS := Aside0.mk hs2
                obtain ⟨hpb0, hpb1⟩ := hpb
                have hsz : s + z = s2 := hps.symm
                clear hz hs2 hps
                have hPP := mul_bd (x := s2) (y := b) (a := 1048576) (b := 1048576) (by omega) (by omega) (by omega) (by omega)
                obtain ⟨P1, hP1⟩ : ∃ z, z = s2 * b := ⟨_, rfl⟩
                rw [← hP1] at hPP
                have HP1 := Aside0.mk hP1
                have hPQ1 := hP1.symm
                obtain ⟨hPP0, hPP1⟩ := hPP
                clear hP1
                have ks : IntKind.i64.wrap s2 = s2 := IntWalk.i64_in _ (by omega)
                have kP1 : IntKind.i64.wrap P1 = P1 := IntWalk.i64_in _ (by omega)
                go_upto_region 12 with fail
                by_cases hge : P2 ≤ P1
                · have dge : decide (P1 ≥ P2) = true := decide_eq_true hge
                  have HI : Aside0 (qF xs a b = i) := ⟨by
                    have h1 := HS.out.2.2
                    have h2 := fdF_least (qP xs a b) 64 0 i (Nat.zero_le _) (by omega) (by
                      unfold qP
                      refine decide_eq_true ?_
                      rw [← HS.out.1, ← HP2.out, ← HSS.out, ← HP1.out]
                      exact hge)
                    have h3 : ¬ qF xs a b < i := fun h => by
                      have h4 := HX.out.2 _ h
                      have h5 := h1.2.1
                      rw [← HS.out.1] at h5
                      omega
                    unfold qF at *
                    omega⟩
                  go_wp2_with fail
                  go_ret2
                  exact ⟨ret2v (show Value.int .i64 (i : Int) = _ by rw [HQ.out.2, HI.out]) (show Value.int .i64 0 = _ by rw [HQ.out.1]), H4.out.1⟩
                · have dge : decide (P1 ≥ P2) = false := decide_eq_false hge
                  have HX2 : Aside0 (s2 = pre xs (i + 1) ∧ ∀ j, j < i + 1 → pre xs (j + 1) * b < F * a) := ⟨HSS.out, fun j hj => by
                    rcases (show j < i ∨ j = i by omega) with h | rfl
                    · exact HX.out.2 j h
                    · rw [← HSS.out, ← HP1.out, ← HP2.out]; omega⟩
                  clear HX
                  go_wp2_with fail
                  go_roundw
                  case rel => exact ⟨i + 1, s2, by go_num, by go_num, by omega, by omega, HX2, trivial⟩
                  case measure => simp [intOf]; omega
              · exfalso
                have h1 := HS.out.2.2
                have h2 := HX.out.2 _ (show qF xs a b < i by omega)
                rw [HS.out.1] at h2
                omega
end Go.Proofs.Ythkfahkkcjagdaa
end
section
namespace Go.Proofs.Ythkfahkkcjagdaa
open Go.RowKit Go.Proofs.YthkfahkkcjagdaaW.PrintWords Go.Proofs.YthkfahkkcjagdaaW.PrintMore Go.Proofs.YthkfahkkcjagdaaW.PrintLast
set_option linter.unusedSimpArgs false
set_option linter.unusedVariables false

set_option maxHeartbeats 8000000 in
set_option maxRecDepth 100000 in
theorem rshare_any (w : World) (xs : List Int) (hl : xs.length = 64) (i0 : Int) :
    Calls Try.prog 49 #[.agg (ints xs).toArray, .int .i64 i0] w fun e w' => e = .returned (.tuple #[.agg #[.int .i64 (shN xs i0), .int .i64 (shD xs i0)], .int .i64 (shE xs i0)]) ∧ Below w.heap.size w w' := by
  have b1 := below_alloc (below_alloc (Below.refl w.heap.size w) (.cells (ints xs).toArray 67)) (.cells #[.int .i64 0, .int .i64 0] 57)
  have q1 := (Blk.new w (ints xs) 67).alloc (.cells #[.int .i64 0, .int .i64 0] 57)
  have q2 := Blk.new (w.alloc (.cells (ints xs).toArray 67)) [.int .i64 0, .int .i64 0] 57
  have e1 : (w.alloc (.cells (ints xs).toArray 67)).heap.size = w.heap.size + 1 := by simp
  rw [e1] at q2
  have HT := Aside0.mk (fun W => rsum_any W xs hl)
  have HFI := Aside0.mk (fun W => rfirst_any W xs hl)
  have H1 := Aside0.mk (And.intro b1 (And.intro q1 q2))
  have HL := Aside0.mk (i67l hl)
  have HLEN := Aside0.mk hl
  clear b1 q1 q2 e1 hl
  obtain ⟨T, hT⟩ : ∃ z, z = totB xs := ⟨_, rfl⟩
  obtain ⟨F, hF⟩ : ∃ z, z = totF xs := ⟨_, rfl⟩
  rw [← hT, ← hF] at HT
  have HTF := Aside0.mk (And.intro hT hF)
  clear hT hF
  cases T with
  | false =>
    have HQ := Aside0.mk (shE_bad (xs := xs) (i := i0) (by rw [← HTF.out.1]; simp))
    go_enter Try.func49, Try.ntmps49
    go_wp2_with (first
      | (refine wpList_load_mid rfl 67 (.tmp 2) rfl _ _ rfl (ints xs) _ (by first | exact H2.out.2.1.range | exact H1.out.2.1.range) Try.underlying67 rfl HL.out ?_)
      | ((with_reducible refine (HT.out _).mono ?_); rintro e w2 ⟨rfl, hb2⟩; have H2 := Aside0.mk (And.intro (below_step H1.out.1 hb2) (And.intro (H1.out.2.1.below hb2) (H1.out.2.2.below hb2))); have z0 := H2.out.2.2.at_ (i := 0) rfl; have z1 := H2.out.2.2.at_ (i := 1) rfl; have zf := H2.out.2.2.free; clear hb2)
      | ((with_reducible refine (HFI.out _).mono ?_); rintro e w3 ⟨rfl, hb3⟩; have H3 := Aside0.mk (And.intro (below_step H2.out.1 hb3) (And.intro (H2.out.2.1.below hb3) (H2.out.2.2.below hb3))); have y0 := H3.out.2.2.at_ (i := 0) rfl; have y1 := H3.out.2.2.at_ (i := 1) rfl; have yf := H3.out.2.2.free; clear hb3 z0 z1 zf))
    refine bodyPost_ret (results_ct rfl _ _ (w.heap.size + 1) 57 #[.int .i64 0, .int .i64 0] (0, 0) _ rfl (by exact (H2.out.2.2.set 0 (.int .i64 0)).set 1 (.int .i64 0)) Try.underlying57 rfl (by kernel_rfl)) rfl ?_
    exact ⟨retS HQ.out.1 HQ.out.2.1 HQ.out.2.2, (H2.out.1.setCell (p := ⟨w.heap.size + 1, 0, none⟩) (Nat.le_succ _) _).setCell (p := ⟨w.heap.size + 1, 1, none⟩) (Nat.le_succ _) _⟩
  | true =>
    by_cases hi0 : i0 < 0
    · have d0 : decide (i0 < 0) = true := decide_eq_true hi0
      have HQ := Aside0.mk (shE_bad (xs := xs) (i := i0) (by omega))
      go_enter Try.func49, Try.ntmps49
      go_wp2_with (first
        | (refine wpList_load_mid rfl 67 (.tmp 2) rfl _ _ rfl (ints xs) _ (by first | exact H2.out.2.1.range | exact H1.out.2.1.range) Try.underlying67 rfl HL.out ?_)
        | ((with_reducible refine (HT.out _).mono ?_); rintro e w2 ⟨rfl, hb2⟩; have H2 := Aside0.mk (And.intro (below_step H1.out.1 hb2) (And.intro (H1.out.2.1.below hb2) (H1.out.2.2.below hb2))); have z0 := H2.out.2.2.at_ (i := 0) rfl; have z1 := H2.out.2.2.at_ (i := 1) rfl; have zf := H2.out.2.2.free; clear hb2)
        | ((with_reducible refine (HFI.out _).mono ?_); rintro e w3 ⟨rfl, hb3⟩; have H3 := Aside0.mk (And.intro (below_step H2.out.1 hb3) (And.intro (H2.out.2.1.below hb3) (H2.out.2.2.below hb3))); have y0 := H3.out.2.2.at_ (i := 0) rfl; have y1 := H3.out.2.2.at_ (i := 1) rfl; have yf := H3.out.2.2.free; clear hb3 z0 z1 zf))
      refine bodyPost_ret (results_ct rfl _ _ (w.heap.size + 1) 57 #[.int .i64 0, .int .i64 0] (0, 0) _ rfl (by exact (H2.out.2.2.set 0 (.int .i64 0)).set 1 (.int .i64 0)) Try.underlying57 rfl (by kernel_rfl)) rfl ?_
      exact ⟨retS HQ.out.1 HQ.out.2.1 HQ.out.2.2, (H2.out.1.setCell (p := ⟨w.heap.size + 1, 0, none⟩) (Nat.le_succ _) _).setCell (p := ⟨w.heap.size + 1, 1, none⟩) (Nat.le_succ _) _⟩
    have d0 : decide (i0 < 0) = false := decide_eq_false hi0
    by_cases hi1 : i0 > 64
    · have d2 : decide (i0 > 64) = true := decide_eq_true hi1
      have HQ := Aside0.mk (shE_bad (xs := xs) (i := i0) (by omega))
      go_enter Try.func49, Try.ntmps49
      go_wp2_with (first
        | (refine wpList_load_mid rfl 67 (.tmp 2) rfl _ _ rfl (ints xs) _ (by first | exact H2.out.2.1.range | exact H1.out.2.1.range) Try.underlying67 rfl HL.out ?_)
        | ((with_reducible refine (HT.out _).mono ?_); rintro e w2 ⟨rfl, hb2⟩; have H2 := Aside0.mk (And.intro (below_step H1.out.1 hb2) (And.intro (H1.out.2.1.below hb2) (H1.out.2.2.below hb2))); have z0 := H2.out.2.2.at_ (i := 0) rfl; have z1 := H2.out.2.2.at_ (i := 1) rfl; have zf := H2.out.2.2.free; clear hb2)
        | ((with_reducible refine (HFI.out _).mono ?_); rintro e w3 ⟨rfl, hb3⟩; have H3 := Aside0.mk (And.intro (below_step H2.out.1 hb3) (And.intro (H2.out.2.1.below hb3) (H2.out.2.2.below hb3))); have y0 := H3.out.2.2.at_ (i := 0) rfl; have y1 := H3.out.2.2.at_ (i := 1) rfl; have yf := H3.out.2.2.free; clear hb3 z0 z1 zf))
      refine bodyPost_ret (results_ct rfl _ _ (w.heap.size + 1) 57 #[.int .i64 0, .int .i64 0] (0, 0) _ rfl (by exact (H2.out.2.2.set 0 (.int .i64 0)).set 1 (.int .i64 0)) Try.underlying57 rfl (by kernel_rfl)) rfl ?_
      exact ⟨retS HQ.out.1 HQ.out.2.1 HQ.out.2.2, (H2.out.1.setCell (p := ⟨w.heap.size + 1, 0, none⟩) (Nat.le_succ _) _).setCell (p := ⟨w.heap.size + 1, 1, none⟩) (Nat.le_succ _) _⟩
    have d2 : decide (i0 > 64) = false := decide_eq_false hi1
    have hFs : F = xs.sum := by rw [HTF.out.2]; exact totF_of xs HTF.out.1.symm
    have hE : shE xs i0 = if xs.sum = 0 then 5 else 0 := by unfold shE; rw [if_pos ⟨HTF.out.1.symm, by omega, by omega⟩]
    have hC0 : cntE xs = if xs.sum = 0 then 5 else 0 := by unfold cntE; rw [if_pos HTF.out.1.symm]
    obtain ⟨m, rfl⟩ : ∃ m : Nat, i0 = m := ⟨i0.toNat, by omega⟩
    by_cases hz : xs.sum = 0
    · have HQ : Aside0 (shN xs m = 0 ∧ shD xs m = 0 ∧ shE xs m = 5) := ⟨by
        have : shE xs m = 5 := by rw [hE, if_pos hz]
        exact ⟨by unfold shN; rw [if_neg (by rw [this]; decide)], by unfold shD; rw [if_neg (by rw [this]; decide)], this⟩⟩
      rw [if_pos hz] at hC0
      have hV0 : cntV xs = 0 := by unfold cntV; rw [if_neg (by rw [hC0]; decide)]
      rw [hC0, hV0] at HFI
      have n5 : ((5 : Int) != 0) = true := by decide
      clear hE hFs hC0 hV0 hz
      go_enter Try.func49, Try.ntmps49
      go_wp2_with (first
        | (refine wpList_load_mid rfl 67 (.tmp 2) rfl _ _ rfl (ints xs) _ (by first | exact H2.out.2.1.range | exact H1.out.2.1.range) Try.underlying67 rfl HL.out ?_)
        | ((with_reducible refine (HT.out _).mono ?_); rintro e w2 ⟨rfl, hb2⟩; have H2 := Aside0.mk (And.intro (below_step H1.out.1 hb2) (And.intro (H1.out.2.1.below hb2) (H1.out.2.2.below hb2))); have z0 := H2.out.2.2.at_ (i := 0) rfl; have z1 := H2.out.2.2.at_ (i := 1) rfl; have zf := H2.out.2.2.free; clear hb2)
        | ((with_reducible refine (HFI.out _).mono ?_); rintro e w3 ⟨rfl, hb3⟩; have H3 := Aside0.mk (And.intro (below_step H2.out.1 hb3) (And.intro (H2.out.2.1.below hb3) (H2.out.2.2.below hb3))); have y0 := H3.out.2.2.at_ (i := 0) rfl; have y1 := H3.out.2.2.at_ (i := 1) rfl; have yf := H3.out.2.2.free; clear hb3 z0 z1 zf))
      refine bodyPost_ret (results_ct rfl _ _ (w.heap.size + 1) 57 #[.int .i64 0, .int .i64 0] (0, 0) _ rfl (by exact (H3.out.2.2.set 0 (.int .i64 0)).set 1 (.int .i64 0)) Try.underlying57 rfl (by kernel_rfl)) rfl ?_
      exact ⟨retS HQ.out.1 HQ.out.2.1 HQ.out.2.2, (H3.out.1.setCell (p := ⟨w.heap.size + 1, 0, none⟩) (Nat.le_succ _) _).setCell (p := ⟨w.heap.size + 1, 1, none⟩) (Nat.le_succ _) _⟩
    · rw [if_neg hz] at hC0
      have hV0 : cntV xs = F := by unfold cntV; rw [if_pos hC0, hFs]
      rw [hC0, hV0] at HFI
      have n5 : ((0 : Int) != 0) = false := by decide
      have htb := totB_all HTF.out.1.symm
      obtain ⟨hall, hF0, hF1⟩ := htb
      rw [← hFs] at hF0 hF1 hz
      have hpb := pre_bd (fun x hx => (hall x hx).1) m
      rw [← hFs] at hpb
      obtain ⟨S, hS⟩ : ∃ S : Nat, pre xs m = S := ⟨(pre xs m).toNat, by omega⟩
      obtain ⟨N, hN⟩ : ∃ N : Nat, F = N := ⟨F.toNat, by omega⟩
      have hE0 : shE xs m = 0 := by rw [hE, if_neg (by rw [← hFs]; exact hz)]
      have HQ : Aside0 (shN xs m = ((S / Nat.gcd S N : Nat) : Int) ∧ shD xs m = ((N / Nat.gcd S N : Nat) : Int) ∧ shE xs m = 0) := ⟨by
        unfold shN shD
        rw [if_pos hE0, if_pos hE0, Int.toNat_natCast, hS, ← hFs, hN, Int.toNat_natCast, Int.toNat_natCast]
        exact ⟨rfl, rfl, hE0⟩⟩
      rw [hS] at hpb
      rw [hN] at hpb hF1
      have hNp : 0 < N := by omega
      have hd1 := Nat.div_le_self S (Nat.gcd S N)
      have hd2 := Nat.div_le_self N (Nat.gcd S N)
      have HLO := Aside0.mk (fun (u v : Value) (W : World) (hu : BD W u S) (hv : BD W v N) => lowest_any hu hv (Sm_small (by omega)) hNp (Sm_small (by omega)) (by omega) (by omega))
      have HOS : Aside0 (∀ W : World, Calls Try.prog 74 #[.int .i64 (S : Int)] W fun e w' => ∃ A m c, e = .returned (.agg #[.bool false, .slice A m c]) ∧ BD w' (.slice A m c) S ∧ Below W.heap.size W w') := ⟨fun W => by have := big_of0 (x := (S : Int)) (by omega) (by omega) W; rwa [Int.toNat_natCast] at this⟩
      have HON : Aside0 (∀ W : World, Calls Try.prog 74 #[.int .i64 (N : Int)] W fun e w' => ∃ A m c, e = .returned (.agg #[.bool false, .slice A m c]) ∧ BD w' (.slice A m c) N ∧ Below W.heap.size W w') := ⟨fun W => by have := big_of0 (x := (N : Int)) (by omega) (by omega) W; rwa [Int.toNat_natCast] at this⟩
      have HS := Aside0.mk (And.intro hS (And.intro hFs hall))
      have hmb : m ≤ 64 := by omega
      have hmbi : (m : Int) ≤ 64 := by omega
      subst hN
      clear hE hFs hall hS hE0 hpb hC0 hV0 hz hd1 hd2
      go_enter Try.func49, Try.ntmps49
      go_upto_region 7 with (first
        | (refine wpList_load_mid rfl 67 (.tmp 2) rfl _ _ rfl (ints xs) _ (by first | exact H2.out.2.1.range | exact H1.out.2.1.range) Try.underlying67 rfl HL.out ?_)
        | ((with_reducible refine (HT.out _).mono ?_); rintro e w2 ⟨rfl, hb2⟩; have H2 := Aside0.mk (And.intro (below_step H1.out.1 hb2) (And.intro (H1.out.2.1.below hb2) (H1.out.2.2.below hb2))); have z0 := H2.out.2.2.at_ (i := 0) rfl; have z1 := H2.out.2.2.at_ (i := 1) rfl; have zf := H2.out.2.2.free; clear hb2)
        | ((with_reducible refine (HFI.out _).mono ?_); rintro e w3 ⟨rfl, hb3⟩; have H3 := Aside0.mk (And.intro (below_step H2.out.1 hb3) (And.intro (H2.out.2.1.below hb3) (H2.out.2.2.below hb3))); have y0 := H3.out.2.2.at_ (i := 0) rfl; have y1 := H3.out.2.2.at_ (i := 1) rfl; have yf := H3.out.2.2.free; clear hb3 z0 z1 zf))
      clear y0 y1 yf
      go_wp2_with fail
      go_loopw [10, 11] (fun v10 v11 wr => ∃ (i : Nat) (s : Int), v11 = .int .i64 i ∧ v10 = .int .i64 s ∧ i ≤ m ∧ (0 ≤ s ∧ s ≤ 1048576) ∧ Aside0 (s = pre xs i) ∧ wr = w3) (fun _ v11 _ => m - (intOf v11).toNat)
      case atStart => exact ⟨0, 0, rfl, rfl, by omega, by omega, ⟨rfl⟩, rfl⟩
      case round =>
        obtain ⟨i, s, rfl, rfl, hi, ⟨hs0, hs1⟩, HX, rfl⟩ := hrel
        by_cases hlt : i < m
        · have hlti : (i : Int) < m := by omega
          have hlt64 : (i : Int) < 64 := by omega
          have hps := pre_succ (xs := xs) (i := i) (by rw [HLEN.out]; omega)
          rw [← HX.out] at hps
          have hpb := pre_bd (fun x hx => (HS.out.2.2 x hx).1) (i + 1)
          rw [← HS.out.2.1] at hpb
          have cz := H3.out.2.1.int_at (i := i) (by rw [HLEN.out]; omega)
          obtain ⟨z, hz⟩ : ∃ z, z = rd xs i := ⟨_, rfl⟩
          rw [← hz] at cz hps
          obtain ⟨s2, hs2⟩ : ∃ z, z = pre xs (i + 1) := ⟨_, rfl⟩
          rw [← hs2] at hps hpb
          have HSS := Aside0.mk hs2
          obtain ⟨hpb0, hpb1⟩ := hpb
          have hsz : s + z = s2 := hps.symm
          clear hz hs2 hps
          go_wp2_with fail
          go_roundw
          case rel => exact ⟨i + 1, s2, by go_num, by go_num, by omega, by omega, HSS, trivial⟩
          case measure => simp [intOf]; omega
        · have hlti : ¬ (i : Int) < m := by omega
          have him : i = m := by omega
          have hsS : s = (S : Int) := by rw [HX.out, him, HS.out.1]
          subst hsS
          clear him
          obtain ⟨p, hp⟩ : ∃ p, p = S / Nat.gcd S N := ⟨_, rfl⟩
          obtain ⟨q, hq⟩ : ∃ p, p = N / Nat.gcd S N := ⟨_, rfl⟩
          rw [← hp, ← hq] at HLO HQ
          clear hp hq
          go_wp2_with (first
            | (have hx := H5.out; (with_reducible refine (HLO.out _ _ _ hx.2.2.1 hx.2.2.2).mono ?_); rintro e w6 ⟨rfl, hb6⟩; have H6 := Aside0.mk (And.intro (below_step hx.1 hb6) (And.intro True.intro (hx.2.1.below hb6))); have y0 := H6.out.2.2.at_ (i := 0) rfl; have y1 := H6.out.2.2.at_ (i := 1) rfl; have yf := H6.out.2.2.free; clear hb6 hx)
            | (have hx := H4.out; (with_reducible refine (HON.out _).mono ?_); rintro e w5 ⟨A5, m5, c5, rfl, hd, hb⟩; have H5 := Aside0.mk (And.intro (below_step hx.1 hb) (And.intro (hx.2.1.below hb) (And.intro (hx.2.2.below hb) hd))); clear hd hb hx)
            | (have hx := H3.out; (with_reducible refine (HOS.out _).mono ?_); rintro e w4 ⟨A4, m4, c4, rfl, hd, hb⟩; have H4 := Aside0.mk (And.intro (below_step hx.1 hb) (And.intro (hx.2.2.below hb) hd)); clear hd hb hx))
          refine bodyPost_ret (results_ct rfl _ _ (w.heap.size + 1) 57 #[.int .i64 (p : Int), .int .i64 (q : Int)] (0, 0) _ rfl (by exact (H6.out.2.2.set 0 (.int .i64 (p : Int))).set 1 (.int .i64 (q : Int))) Try.underlying57 rfl (by kernel_rfl)) rfl ?_
          exact ⟨retS HQ.out.1 HQ.out.2.1 HQ.out.2.2, (H6.out.1.setCell (p := ⟨w.heap.size + 1, 0, none⟩) (Nat.le_succ _) _).setCell (p := ⟨w.heap.size + 1, 1, none⟩) (Nat.le_succ _) _⟩

end Go.Proofs.Ythkfahkkcjagdaa
end
section
namespace Go.Proofs.Ythkfahkkcjagdaa
open Go.RowKit Go.Proofs.YthkfahkkcjagdaaW.PrintWords Go.Proofs.YthkfahkkcjagdaaW.PrintMore Go.Proofs.YthkfahkkcjagdaaW.PrintLast
set_option linter.unusedSimpArgs false
set_option linter.unusedVariables false

structure M2F (w : World) (b : Nat) (xs ys : List Int) (p q : Int) (W : World) : Prop where
  bel : Below w.heap.size w W
  x : Blk W b (ints xs) 67
  y : Blk W (b + 1) (ints ys) 67
  f : Blk W (b + 1 + 1) [.int .i64 p, .int .i64 q] 57
theorem M2F.below {w : World} {b : Nat} {xs ys : List Int} {p q : Int} {W W' : World} (h : M2F w b xs ys p q W) (k : Below W.heap.size W W') : M2F w b xs ys p q W' :=
  ⟨below_step h.bel k, h.x.below k, h.y.below k, h.f.below k⟩
set_option maxHeartbeats 8000000 in
set_option maxRecDepth 100000 in
theorem hists_any (w : World) (xs ys : List Int) (hx : xs.length = 64) (hy : ys.length = 64) (p q lo : Int) :
    Calls Try.prog 13 #[.agg (ints xs).toArray, .agg (ints ys).toArray, .agg #[.int .i64 p, .int .i64 q], .int .i64 lo] w fun e w' => e = .returned (.bool true) ∧ Below w.heap.size w w' := by
  have b3 := below_alloc (below_alloc (below_alloc (Below.refl w.heap.size w) (.cells (ints xs).toArray 67)) (.cells (ints ys).toArray 67)) (.cells #[.int .i64 p, .int .i64 q] 57)
  have q1 := ((Blk.new w (ints xs) 67).alloc (.cells (ints ys).toArray 67)).alloc (.cells #[.int .i64 p, .int .i64 q] 57)
  have q2 := (Blk.new (w.alloc (.cells (ints xs).toArray 67)) (ints ys) 67).alloc (.cells #[.int .i64 p, .int .i64 q] 57)
  have q3 := Blk.new ((w.alloc (.cells (ints xs).toArray 67)).alloc (.cells (ints ys).toArray 67)) [.int .i64 p, .int .i64 q] 57
  have e1 : (w.alloc (.cells (ints xs).toArray 67)).heap.size = w.heap.size + 1 := by simp
  have e2 : ((w.alloc (.cells (ints xs).toArray 67)).alloc (.cells (ints ys).toArray 67)).heap.size = w.heap.size + 1 + 1 := by simp
  rw [e1] at q2
  rw [e2] at q3
  have H0 := Aside0.mk (M2F.mk b3 q1 q2 q3)
  clear b3 q1 q2 q3 e1 e2
  have HAL := Aside0.mk alive_any
  have hRl := mrgR_len xs ys
  have HM1 := Aside0.mk (fun W => hmerge_any W xs ys hx hy)
  have HM2 := Aside0.mk (fun W => rmerge_any W xs ys hx hy)
  have HT1 := Aside0.mk (fun W => Total_any W xs hx)
  have HT2 := Aside0.mk (fun W => rTotal_any W xs hx)
  have HI1 := Aside0.mk (fun W => micron_any W xs hx)
  have HI2 := Aside0.mk (fun W => rmicron_any W xs hx)
  have HV1 := Aside0.mk (fun W => variance_any W xs hx)
  have HV2 := Aside0.mk (fun W => rvariance_any W xs hx)
  have HQ1 := Aside0.mk (fun W => quan_any W xs hx p q)
  have HQ2 := Aside0.mk (fun W => rquan_any W xs hx p q)
  have HS1 := Aside0.mk (fun W => share_any W xs hx lo)
  have HS2 := Aside0.mk (fun W => rshare_any W xs hx lo)
  generalize mrgR xs ys = R at HM1 HM2 hRl
  generalize mrgE xs ys = me at HM1 HM2
  generalize totV xs = tv at HT1 HT2
  generalize totE xs = te at HT1 HT2
  generalize micV xs = iv at HI1 HI2
  generalize varV xs = vv at HV1 HV2
  generalize cntE xs = ce at HI1 HI2 HV1 HV2
  generalize quanV xs p q = qv at HQ1 HQ2
  generalize quanE xs p q = qe at HQ1 HQ2
  generalize shN xs lo = sn at HS1 HS2
  generalize shD xs lo = sd at HS1 HS2
  generalize shE xs lo = se at HS1 HS2
  have heq : ∀ W, (Op.equalIn 10000 67 (.agg (ints R).toArray) (.agg (ints R).toArray)).run Try.prog W = .ok true W := fun W => by rw [hist_eql W hRl hRl, decide_eq_true rfl]
  have HLE := Aside0.mk hRl
  have HLX := Aside0.mk (i67l hx)
  have HLY := Aside0.mk (i67l hy)
  have HLR := Aside0.mk (i67l hRl)
  have n1 : (tv != tv) = false := by simp
  have n2 : (te != te) = false := by simp
  have n3 : (me != me) = false := by simp
  have n4 : (iv != iv) = false := by simp
  have n5 : (ce != ce) = false := by simp
  have n6 : (vv != vv) = false := by simp
  have n7 : (qv != qv) = false := by simp
  have n8 : (qe != qe) = false := by simp
  have n9 : (sn == sn) = true := by simp
  have n10 : (sd == sd) = true := by simp
  have n11 : (se == se) = true := by simp
  clear hRl hx hy
  go_enter Try.func13, Try.ntmps13
  go_upto_region 1 with fail
  generalize (((w.alloc (.cells (ints xs).toArray 67)).alloc (.cells (ints ys).toArray 67)).alloc (.cells #[.int .i64 p, .int .i64 q] 57)) = w3 at H0 ⊢
  obtain ⟨b, hb0⟩ : ∃ z, z = w.heap.size := ⟨_, rfl⟩
  rw [← hb0] at H0 ⊢
  have HB0 := Aside0.mk hb0
  clear hb0
  go_upto_region 2 with (first
    | ((with_reducible refine gate_dst (N := 18) rfl ?_); refine wpList_load_mid rfl 67 (.tmp 4) rfl _ _ rfl (ints xs) _ H0.out.x.range Try.underlying67 rfl HLX.out ?_)
    | ((with_reducible refine (HT1.out _).mono ?_); rintro e w_H1 ⟨rfl, hb⟩; have H1 := Aside0.mk (H0.out.below hb); clear hb))
  go_upto_region 5 with (first
    | ((with_reducible refine gate_dst (N := 23) rfl ?_); refine wpList_load_mid rfl 67 (.tmp 4) rfl _ _ rfl (ints xs) _ H1.out.x.range Try.underlying67 rfl HLX.out ?_)
    | ((with_reducible refine (HT2.out _).mono ?_); rintro e w_H2 ⟨rfl, hb⟩; have H2 := Aside0.mk (H1.out.below hb); clear hb))
  go_upto_region 6 with (first
    | ((with_reducible refine gate_dst (N := 36) rfl ?_); refine wpList_load_mid rfl 67 (.tmp 4) rfl _ _ rfl (ints xs) _ H2.out.x.range Try.underlying67 rfl HLX.out ?_)
    | ((with_reducible refine gate_dst (N := 37) rfl ?_); refine wpList_load_mid rfl 67 (.tmp 5) rfl _ _ rfl (ints ys) _ H2.out.y.range Try.underlying67 rfl HLY.out ?_)
    | ((with_reducible refine (HM1.out _).mono ?_); rintro e w_H3 ⟨rfl, hb⟩; have H3 := Aside0.mk (H2.out.below hb); clear hb)
    | ((with_reducible refine gate_dst (N := 13) rfl ?_); refine wpl_new67 rfl rfl 13 rfl rfl rfl (.tmp 13) (.tmp 39) rfl R HLE.out rfl rfl ?_; intro w4 hb4 hq4; have H4 := Aside0.mk (And.intro (H3.out.below hb4) hq4); clear hb4 hq4))
  obtain ⟨b13, hb13⟩ : ∃ z, z = w_H3.heap.size := ⟨_, rfl⟩
  rw [← hb13] at H4 ⊢
  clear hb13
  go_upto_region 7 with (first
    | ((with_reducible refine gate_dst (N := 42) rfl ?_); refine wpList_load_mid rfl 67 (.tmp 4) rfl _ _ rfl (ints xs) _ H4.out.1.x.range Try.underlying67 rfl HLX.out ?_)
    | ((with_reducible refine gate_dst (N := 43) rfl ?_); refine wpList_load_mid rfl 67 (.tmp 5) rfl _ _ rfl (ints ys) _ H4.out.1.y.range Try.underlying67 rfl HLY.out ?_)
    | ((with_reducible refine (HM2.out _).mono ?_); rintro e w5 ⟨rfl, hb⟩; have H5 := Aside0.mk (And.intro (H4.out.1.below hb) (H4.out.2.below hb)); clear hb)
    | ((with_reducible refine gate_dst (N := 14) rfl ?_); refine wpl_new67 rfl rfl 14 rfl rfl rfl (.tmp 14) (.tmp 45) rfl R HLE.out rfl rfl ?_; intro w6 hb6 hq6; have H6 := Aside0.mk (And.intro (H5.out.1.below hb6) (And.intro (H5.out.2.below hb6) hq6)); clear hb6 hq6))
  obtain ⟨b14, hb14⟩ : ∃ z, z = w5.heap.size := ⟨_, rfl⟩
  rw [← hb14] at H6 ⊢
  clear hb14
  go_upto_region 9 with (first
    | ((with_reducible refine gate_dst (N := 47) rfl ?_); refine wpList_load_mid rfl 67 (.tmp 13) rfl _ _ rfl (ints R) _ H6.out.2.1.range Try.underlying67 rfl HLR.out ?_)
    | ((with_reducible refine gate_dst (N := 48) rfl ?_); refine wpList_load_mid rfl 67 (.tmp 14) rfl _ _ rfl (ints R) _ H6.out.2.2.range Try.underlying67 rfl HLR.out ?_))
  have H7 := Aside0.mk H6.out.1
  go_upto_region 10 with (first
    | ((with_reducible refine gate_dst (N := 56) rfl ?_); refine wpList_load_mid rfl 67 (.tmp 4) rfl _ _ rfl (ints xs) _ H7.out.x.range Try.underlying67 rfl HLX.out ?_)
    | ((with_reducible refine (HI1.out _).mono ?_); rintro e w_H8 ⟨rfl, hb⟩; have H8 := Aside0.mk (H7.out.below hb); clear hb))
  go_upto_region 13 with (first
    | ((with_reducible refine gate_dst (N := 61) rfl ?_); refine wpList_load_mid rfl 67 (.tmp 4) rfl _ _ rfl (ints xs) _ H8.out.x.range Try.underlying67 rfl HLX.out ?_)
    | ((with_reducible refine (HI2.out _).mono ?_); rintro e w_H9 ⟨rfl, hb⟩; have H9 := Aside0.mk (H8.out.below hb); clear hb))
  go_upto_region 14 with (first
    | ((with_reducible refine gate_dst (N := 74) rfl ?_); refine wpList_load_mid rfl 67 (.tmp 4) rfl _ _ rfl (ints xs) _ H9.out.x.range Try.underlying67 rfl HLX.out ?_)
    | ((with_reducible refine (HV1.out _).mono ?_); rintro e w_Ha ⟨rfl, hb⟩; have Ha := Aside0.mk (H9.out.below hb); clear hb))
  go_upto_region 17 with (first
    | ((with_reducible refine gate_dst (N := 79) rfl ?_); refine wpList_load_mid rfl 67 (.tmp 4) rfl _ _ rfl (ints xs) _ Ha.out.x.range Try.underlying67 rfl HLX.out ?_)
    | ((with_reducible refine (HV2.out _).mono ?_); rintro e w_Hb ⟨rfl, hb⟩; have Hb := Aside0.mk (Ha.out.below hb); clear hb))
  have f0 := Hb.out.f.at_ (i := 0) rfl
  have f1 := Hb.out.f.at_ (i := 1) rfl
  go_upto_region 18 with (first
    | ((with_reducible refine gate_dst (N := 92) rfl ?_); refine wpList_load_mid rfl 67 (.tmp 4) rfl _ _ rfl (ints xs) _ Hb.out.x.range Try.underlying67 rfl HLX.out ?_)
    | ((with_reducible refine (HQ1.out _).mono ?_); rintro e w_Hc ⟨rfl, hb⟩; have Hc := Aside0.mk (Hb.out.below hb); clear hb))
  clear f0 f1
  have f0 := Hc.out.f.at_ (i := 0) rfl
  have f1 := Hc.out.f.at_ (i := 1) rfl
  go_upto_region 21 with (first
    | ((with_reducible refine gate_dst (N := 98) rfl ?_); refine wpList_load_mid rfl 67 (.tmp 4) rfl _ _ rfl (ints xs) _ Hc.out.x.range Try.underlying67 rfl HLX.out ?_)
    | ((with_reducible refine (HQ2.out _).mono ?_); rintro e w_Hd ⟨rfl, hb⟩; have Hd := Aside0.mk (Hc.out.below hb); clear hb))
  clear f0 f1
  go_upto_region 22 with (first
    | ((with_reducible refine gate_dst (N := 112) rfl ?_); refine wpList_load_mid rfl 67 (.tmp 4) rfl _ _ rfl (ints xs) _ Hd.out.x.range Try.underlying67 rfl HLX.out ?_)
    | ((with_reducible refine (HS1.out _).mono ?_); rintro e w_He ⟨rfl, hb⟩; have He := Aside0.mk (Hd.out.below hb); clear hb))
  obtain ⟨b15, hb15⟩ : ∃ z, z = w_He.heap.size := ⟨_, rfl⟩
  have hx := below_alloc (Below.refl w_He.heap.size w_He) (.cells #[.int .i64 sn, .int .i64 sd] 57)
  have hq := Blk.new w_He [.int .i64 sn, .int .i64 sd] 57
  rw [← hb15] at hq ⊢
  have Hf := Aside0.mk (He.out.below hx)
  have HF15 := Aside0.mk hq
  clear hx hq hb15
  generalize w_He.alloc (.cells #[.int .i64 sn, .int .i64 sd] 57) = wf at Hf HF15 ⊢
  go_upto_region 23 with (first
    | ((with_reducible refine gate_dst (N := 118) rfl ?_); refine wpList_load_mid rfl 67 (.tmp 4) rfl _ _ rfl (ints xs) _ Hf.out.x.range Try.underlying67 rfl HLX.out ?_)
    | ((with_reducible refine (HS2.out _).mono ?_); rintro e w_Hg ⟨rfl, hb⟩; have Hg := Aside0.mk (And.intro (Hf.out.below hb) (HF15.out.below hb)); clear hb))
  obtain ⟨b16, hb16⟩ : ∃ z, z = w_Hg.heap.size := ⟨_, rfl⟩
  have hx := below_alloc (Below.refl w_Hg.heap.size w_Hg) (.cells #[.int .i64 sn, .int .i64 sd] 57)
  have hq := Blk.new w_Hg [.int .i64 sn, .int .i64 sd] 57
  rw [← hb16] at hq ⊢
  have Hh := Aside0.mk (And.intro (below_step Hg.out.1.bel hx) (Hg.out.2.below hx))
  have HF16 := Aside0.mk hq
  clear hx hq hb16
  generalize w_Hg.alloc (.cells #[.int .i64 sn, .int .i64 sd] 57) = wh at Hh HF16 ⊢
  have s0 := Hh.out.2.at_ (i := 0) rfl
  have s1 := Hh.out.2.at_ (i := 1) rfl
  have t0 := HF16.out.at_ (i := 0) rfl
  have t1 := HF16.out.at_ (i := 1) rfl
  have hu57 := Try.underlying57
  go_wp2_with ((with_reducible refine (HAL.out _).mono ?_); rintro e w' ⟨rfl, hb2⟩; have HB2 := Aside0.mk (below_step Hh.out.1 hb2); clear hb2)
  go_ret
  exact ⟨rfl, HB2.out⟩
end Go.Proofs.Ythkfahkkcjagdaa
end

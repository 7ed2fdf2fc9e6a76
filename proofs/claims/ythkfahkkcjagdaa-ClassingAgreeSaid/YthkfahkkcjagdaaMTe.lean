/- Two equal results are found equal: its walk; and the states of a test that is fed. -/
import Derived.Test.YthkfahkkcjagdaaMTd
import Derived.Test.YthkfahkkcjagdaaD2
import Derived.Deep.DeepCutAuto
namespace Go.Proofs.Ythkfahkkcjagdaa
open Go.RowKit Go.Proofs.YthkfahkkcjagdaaW.PrintWords Go.Proofs.YthkfahkkcjagdaaW.PrintMore Go.Proofs.YthkfahkkcjagdaaW.PrintLast
set_option linter.unusedSimpArgs false
set_option linter.unusedVariables false

theorem found_yes (w : World) (x y z : Int) (A B : Option Addr) (n c d : Nat) (l : List Int) (h : (Kd.int .i64).C w A n l) (k : (Kd.int .i64).C w B n l) :
    Calls Try.prog 52 #[.agg #[.int .i64 x, .int .i64 y, .int .i64 z, .slice A n c], .agg #[.int .i64 x, .int .i64 y, .int .i64 z, .slice B n d]] w fun e w' => e = .returned (.bool true) ∧ Below w.heap.size w w' := by
  have q1 := Blk.new w [.int .i64 x, .int .i64 y, .int .i64 z, .slice A n c] 83
  obtain ⟨w2, hw2⟩ : ∃ u, u = (w.alloc (.cells #[.int .i64 x, .int .i64 y, .int .i64 z, .slice A n c] 83)).alloc (.cells #[.int .i64 x, .int .i64 y, .int .i64 z, .slice B n d] 83) := ⟨_, rfl⟩
  have HW := Aside0.mk hw2
  have q2 := q1.alloc (.cells #[.int .i64 x, .int .i64 y, .int .i64 z, .slice B n d] 83)
  have HB : Aside0 (Below w.heap.size w w2) := ⟨by rw [hw2]; exact below_alloc (below_alloc (Below.refl _ _) _) _⟩
  have qz : Blk w2 (w.heap.size + 1) [.int .i64 x, .int .i64 y, .int .i64 z, .slice B n d] 83 := by
    have h := Blk.new (w.alloc (.cells #[.int .i64 x, .int .i64 y, .int .i64 z, .slice A n c] 83)) [.int .i64 x, .int .i64 y, .int .i64 z, .slice B n d] 83
    rw [show (w.alloc (.cells #[.int .i64 x, .int .i64 y, .int .i64 z, .slice A n c] 83)).heap.size = w.heap.size + 1 by simp] at h
    rw [hw2]
    exact h
  rw [← hw2] at q2
  have HS := Aside0.mk (same_yes_C w2 A B n c d l (Kd.C_below h HB.out) (Kd.C_below k HB.out))
  have s0 := q2.at_ (i := 0) rfl
  have s1 := q2.at_ (i := 1) rfl
  have s2 := q2.at_ (i := 2) rfl
  have s3 := q2.at_ (i := 3) rfl
  have t0 := qz.at_ (i := 0) rfl
  have t1 := qz.at_ (i := 1) rfl
  have t2 := qz.at_ (i := 2) rfl
  have t3 := qz.at_ (i := 3) rfl
  have e0 : (x == x) = true := by simp
  have e1 : (y == y) = true := by simp
  have e2 : (z == z) = true := by simp
  clear q1 q2 qz h k hw2
  go_enter Try.func52, Try.ntmps52
  go_upto_region 1 with fail
  rw [← HW.out]
  go_wp2_with ((with_reducible refine HS.out.mono ?_); rintro e w' ⟨rfl, hb2⟩; have HB2 := Aside0.mk (below_step HB.out hb2); clear hb2)
  go_ret
  exact ⟨rfl, HB2.out⟩

structure TSt (xs : List Sb) (st : Int) (us : List Int) : Prop where
  hok : ∀ s ∈ xs, SbOK s
  hl : xs.length ≤ 8
  h0 : st = 0 → xs.length < 8
  hu : st ≠ 1 → us = []
  h1 : st = 1 → 0 < us.length ∧ us.length ≤ 8 ∧ ∀ u ∈ us, 0 ≤ u ∧ u < xs.length
theorem TSt.new : TSt [] 0 [] := ⟨by simp, by simp, by simp, fun _ => rfl, fun h => absurd h (by decide)⟩
theorem usedS_length {xs : List Sb} (h0 : 0 < xs.length) (h : xs.length % 2 = 0) : (usedS xs).length = xs.length / 2 + 1 := by rw [(usedS_perm xs).length_eq, segS_length h0 h]
theorem TSt.fed {xs : List Sb} {us : List Int} {s : Sb} (h : TSt xs 0 us) (hs : SbOK s) (tol : Int) : TSt (xs ++ [s]) (fedSt (xs ++ [s]) tol) (fedUs (xs ++ [s]) tol) := by
  have hl : (xs ++ [s]).length ≤ 8 := by have := h.h0 rfl; simp; omega
  have h0 : 0 < (xs ++ [s]).length := by simp
  have hok : ∀ x ∈ xs ++ [s], SbOK x := by
    intro x hx
    rcases List.mem_append.1 hx with h1 | h1
    · exact h.hok x h1
    · rw [List.mem_singleton.1 h1]; exact hs
  generalize xs ++ [s] = X at hl h0 hok
  unfold fedSt fedUs
  by_cases hp : X.length % 2 = 1
  · rw [if_pos hp, if_pos hp]
    exact ⟨hok, hl, fun _ => by omega, fun _ => rfl, fun h => absurd h (by decide)⟩
  · rw [if_neg hp, if_neg hp]
    by_cases hg : goodS X tol
    · rw [if_pos hg, if_pos hg]
      have e := usedS_length h0 (by omega)
      refine ⟨hok, hl, fun h => absurd h (by decide), fun h => absurd rfl h, fun _ => ⟨by omega, by omega, fun u hu => ?_⟩⟩
      exact ordS_mem (segS_sub _ ((usedS_perm X).mem_iff.1 hu))
    · rw [if_neg hg, if_neg hg]
      by_cases h8 : X.length = 8
      · rw [if_pos h8]
        exact ⟨hok, hl, fun h => absurd h (by decide), fun _ => rfl, fun h => absurd h (by decide)⟩
      · rw [if_neg h8]
        exact ⟨hok, hl, fun _ => by omega, fun _ => rfl, fun h => absurd h (by decide)⟩
/-- What a feed answers, and what it leaves. -/
noncomputable def fdE (st : Int) (s : Sb) : Int := if st ≠ 0 then 10 else if sbB s = true then 0 else 2
noncomputable def fdX (xs : List Sb) (st : Int) (s : Sb) : List Sb := if st ≠ 0 then xs else if sbB s = true then xs ++ [s] else xs
noncomputable def fdS (xs : List Sb) (tol st : Int) (s : Sb) : Int := if st ≠ 0 then st else if sbB s = true then fedSt (xs ++ [s]) tol else st
noncomputable def fdU (xs : List Sb) (tol st : Int) (us : List Int) (s : Sb) : List Int := if st ≠ 0 then us else if sbB s = true then fedUs (xs ++ [s]) tol else us
theorem sbB_ok {s : Sb} : sbB s = true ↔ SbOK s := by
  by_cases h : SbOK s
  · simp [sbB_yes h, h]
  · simp [sbB_no h, h]
theorem TSt.fd {xs : List Sb} {st : Int} {us : List Int} (h : TSt xs st us) (tol : Int) (s : Sb) : TSt (fdX xs st s) (fdS xs tol st s) (fdU xs tol st us s) := by
  unfold fdX fdS fdU
  by_cases h0 : st ≠ 0
  · rw [if_pos h0, if_pos h0, if_pos h0]; exact h
  · rw [if_neg h0, if_neg h0, if_neg h0]
    by_cases hs : sbB s = true
    · rw [if_pos hs, if_pos hs, if_pos hs]
      have e : st = 0 := Classical.not_not.1 h0
      subst e
      exact h.fed (sbB_ok.1 hs) tol
    · rw [if_neg hs, if_neg hs, if_neg hs]; exact h
/-- The own test in memory. -/
def OwnT (w : World) (N : Nat) (S : Nat → Prop) (bt : Nat) (xs : List Sb) (tol st : Int) (us : List Int) : Prop := ∃ vs vu, TO w N S bt xs tol st us vs vu
theorem OwnT.below {w w' : World} {N bt : Nat} {S : Nat → Prop} {xs : List Sb} {tol st : Int} {us : List Int} (h : OwnT w N S bt xs tol st us) (k : Below w.heap.size w w') : OwnT w' N S bt xs tol st us := by
  obtain ⟨vs, vu, h⟩ := h
  exact ⟨vs, vu, h.below k⟩
theorem OwnT.mono {w : World} {N bt : Nat} {S S' : Nat → Prop} {xs : List Sb} {tol st : Int} {us : List Int} (h : OwnT w N S bt xs tol st us) (k : ∀ j, S j → S' j) : OwnT w N S' bt xs tol st us := by
  obtain ⟨vs, vu, h⟩ := h
  exact ⟨vs, vu, h.b, Kd.R_mono h.s k, Kd.R_mono h.u k, h.hb, h.hu⟩
def OFeedPost (w : World) (N : Nat) (S : Nat → Prop) (bt : Nat) (xs : List Sb) (tol st : Int) (us : List Int) (s : Sb) (e : Ending) (w' : World) : Prop :=
  e = .returned (.int .i64 (fdE st s)) ∧ Kp (fun k => k = bt ∨ S k ∨ w.heap.size ≤ k) w w' ∧ OwnT w' N (fun k => S k ∨ w.heap.size ≤ k) bt (fdX xs st s) tol (fdS xs tol st s) (fdU xs tol st us s)
theorem ofeed_any {w : World} {N bt : Nat} {S : Nat → Prop} {xs : List Sb} {tol st : Int} {us : List Int} (h : OwnT w N S bt xs tol st us) (ha : TSt xs st us) (ht : 0 ≤ tol ∧ tol ≤ 10000) (hnb : ¬ S bt) (s : Sb) :
    Calls Try.prog 50 #[.pointer (some ⟨bt, 0, none⟩), .agg #[.int .i64 s.raw, .int .i64 s.dry, .int .i64 s.ash, .int .i64 s.gre, .int .i64 s.veg]] w (OFeedPost w N S bt xs tol st us s) := by
  unfold OFeedPost fdE fdX fdS fdU
  obtain ⟨vs, vu, h⟩ := h
  have hbt : bt < w.heap.size := h.b.lt
  by_cases h0 : st ≠ 0
  · rw [if_pos h0, if_pos h0, if_pos h0, if_pos h0]
    refine (feedA_any h h0 s).mono ?_
    rintro e w' ⟨rfl, hb⟩
    exact ⟨rfl, Kp.of_below hb, (OwnT.below ⟨vs, vu, h⟩ hb).mono fun j hj => .inl hj⟩
  · rw [if_neg h0, if_neg h0, if_neg h0, if_neg h0]
    have e : st = 0 := Classical.not_not.1 h0
    subst e
    by_cases hs : sbB s = true
    · rw [if_pos hs, if_pos hs, if_pos hs, if_pos hs]
      have h2 : TO w N (fun k => S k ∨ w.heap.size ≤ k) bt xs tol 0 us vs vu := ⟨h.b, Kd.R_mono h.s fun j hj => .inl hj, Kd.R_mono h.u fun j hj => .inl hj, h.hb, h.hu⟩
      refine (feedC_any h2 (sbB_ok.1 hs) ha.hok (ha.h0 rfl) ht (fun k hk => .inr hk) (fun hk => hk.elim hnb fun hk => by omega)).mono ?_
      rintro e w' ⟨rfl, hk, vs', vu', h'⟩
      exact ⟨rfl, hk, vs', vu', h'⟩
    · rw [if_neg hs, if_neg hs, if_neg hs, if_neg hs]
      refine (feedB_any h (fun hn => hs (sbB_ok.2 hn))).mono ?_
      rintro e w' ⟨rfl, hb⟩
      exact ⟨rfl, Kp.of_below hb, (OwnT.below ⟨vs, vu, h⟩ hb).mono fun j hj => .inl hj⟩
/-- The rows of the reference's test in memory. -/
def RefR (w : World) (N : Nat) (R : Nat → Prop) (A : Option Addr) (c : Nat) (E : Option Addr) (d : Nat) (xs : List Sb) (us : List Int) : Prop :=
  kQ.R 55 w N R (.slice A xs.length c) xs ∧ RI w N R (.slice E us.length d) us
def RFPost (w : World) (N : Nat) (R : Nat → Prop) (xs : List Sb) (tol st : Int) (us : List Int) (s : Sb) (e : Ending) (w' : World) : Prop :=
  ∃ A c E d, e = .returned (.tuple #[.agg #[.int .i64 tol, .slice A (fdX xs st s).length c, .int .i64 (fdS xs tol st s), .slice E (fdU xs tol st us s).length d], .int .i64 (fdE st s)]) ∧ Below w.heap.size w w' ∧ RefR w' N (fun k => R k ∨ w.heap.size ≤ k) A c E d (fdX xs st s) (fdU xs tol st us s) ∧ (fdS xs tol st s = 0 → E = none ∧ d = 0)
theorem rfeed_any {w : World} {N : Nat} {R : Nat → Prop} {A : Option Addr} {c : Nat} {E : Option Addr} {d : Nat} {xs : List Sb} {tol st : Int} {us : List Int} (h : RefR w N R A c E d xs us) (hN : N ≤ w.heap.size) (ha : TSt xs st us) (ht : 0 ≤ tol ∧ tol ≤ 10000) (h00 : st = 0 → E = none ∧ d = 0) (s : Sb) :
    Calls Try.prog 57 #[.agg #[.int .i64 tol, .slice A xs.length c, .int .i64 st, .slice E us.length d], .agg #[.int .i64 s.raw, .int .i64 s.dry, .int .i64 s.ash, .int .i64 s.gre, .int .i64 s.veg]] w (RFPost w N R xs tol st us s) := by
  unfold RFPost fdE fdX fdS fdU
  have hkeep : ∀ w', Below w.heap.size w w' → RefR w' N (fun k => R k ∨ w.heap.size ≤ k) A c E d xs us := fun w' hb => ⟨Kd.R_mono (Kd.R_below h.1 hb) fun j hj => .inl hj, Kd.R_mono (Kd.R_below h.2 hb) fun j hj => .inl hj⟩
  by_cases h0 : st ≠ 0
  · rw [if_pos h0, if_pos h0, if_pos h0, if_pos h0]
    refine (rfeedA_any w A xs.length c tol st E us.length d h0 s).mono ?_
    rintro e w' ⟨rfl, hb⟩
    exact ⟨A, c, E, d, rfl, hb, hkeep w' hb, h00⟩
  · rw [if_neg h0, if_neg h0, if_neg h0, if_neg h0]
    have e : st = 0 := Classical.not_not.1 h0
    subst e
    by_cases hs : sbB s = true
    · rw [if_pos hs, if_pos hs, if_pos hs, if_pos hs]
      obtain ⟨rfl, rfl⟩ := h00 rfl
      obtain rfl := ha.hu (by decide)
      obtain ⟨A', c', e, _, hc⟩ := Kd.R_reads h.1
      cases e
      refine (rfeedC_any w A xs.length c xs tol rfl hc ha.hok (ha.h0 rfl) ht (sbB_ok.1 hs)).mono ?_
      rintro e w' ⟨A2, c2, E2, k2, d2, rfl, hx, hu, hb, h0⟩
      obtain ⟨_, _, e2⟩ := Kd.R_slice hu
      cases e2
      exact ⟨A2, c2, E2, d2, rfl, hb, ⟨Kd.R_mono (Kd.R_lower (Kd.R_bound hx) hN) (fun j hj => .inr hj.2.1), Kd.R_mono (Kd.R_lower (Kd.R_bound hu) hN) (fun j hj => .inr hj.2.1)⟩, h0⟩
    · rw [if_neg hs, if_neg hs, if_neg hs, if_neg hs]
      refine (rfeedB_any w A xs.length c tol E us.length d (fun hn => hs (sbB_ok.2 hn))).mono ?_
      rintro e w' ⟨rfl, hb⟩
      exact ⟨A, c, E, d, rfl, hb, hkeep w' hb, h00⟩
end Go.Proofs.Ythkfahkkcjagdaa
namespace Go.Proofs.Ythkfahkkcjagdaa
open Go.RowKit Go.Proofs.YthkfahkkcjagdaaW.PrintWords Go.Proofs.YthkfahkkcjagdaaW.PrintMore Go.Proofs.YthkfahkkcjagdaaW.PrintLast
set_option linter.unusedSimpArgs false
set_option linter.unusedVariables false

def rsE (st : Int) : Int := if st = 1 then 0 else 10
def rsV (f : Sb → Int) (st : Int) (xs : List Sb) (us : List Int) : Int := if st = 1 then sumU f xs us else 0
def OResPost (w : World) (st : Int) (xs : List Sb) (us : List Int) (e : Ending) (w' : World) : Prop :=
  Below w.heap.size w w' ∧ ∃ B c, e = .returned (.tuple #[.agg #[.int .i64 (rsV woolS st xs us), .int .i64 (rsV Sb.veg st xs us), .int .i64 (rsV Sb.raw st xs us), .slice B us.length c], .int .i64 (rsE st)]) ∧ RI w' w.heap.size (fun _ => True) (.slice B us.length c) us
theorem oresult_any {w : World} {N bt : Nat} {S : Nat → Prop} {xs : List Sb} {tol st : Int} {us : List Int} (h : OwnT w N S bt xs tol st us) (ha : TSt xs st us) :
    Calls Try.prog 51 #[.pointer (some ⟨bt, 0, none⟩)] w (OResPost w st xs us) := by
  obtain ⟨vs, vu, h⟩ := h
  unfold OResPost rsE rsV
  by_cases h1 : st = 1
  · subst h1
    rw [if_pos rfl, if_pos rfl, if_pos rfl, if_pos rfl]
    obtain ⟨a, b, c⟩ := ha.h1 rfl
    refine (resC_any h ha.hok c a b).mono ?_
    rintro e w' ⟨hb, g, cap, rfl, hr⟩
    exact ⟨hb, _, cap, rfl, hr⟩
  · rw [if_neg h1, if_neg h1, if_neg h1, if_neg h1]
    obtain rfl := ha.hu h1
    refine (resA_any h h1).mono ?_
    rintro e w' ⟨rfl, hb⟩
    exact ⟨hb, none, 0, rfl, Kd.R_nil _ _ _ _ _⟩
def RResP (w : World) (st : Int) (xs : List Sb) (us : List Int) (e : Ending) (w' : World) : Prop :=
  Below w.heap.size w w' ∧ ∃ B c, e = .returned (.tuple #[.agg #[.int .i64 (rsV woolS st xs us), .int .i64 (rsV Sb.veg st xs us), .int .i64 (rsV Sb.raw st xs us), .slice B us.length c], .int .i64 (rsE st)]) ∧ (Kd.int .i64).C w' B us.length us
theorem rresult_any {w : World} {N : Nat} {R : Nat → Prop} {A : Option Addr} {c : Nat} {E : Option Addr} {d : Nat} {xs : List Sb} {us : List Int} (tol : Int) {st : Int} (h : RefR w N R A c E d xs us) (ha : TSt xs st us) :
    Calls Try.prog 59 #[.agg #[.int .i64 tol, .slice A xs.length c, .int .i64 st, .slice E us.length d]] w (RResP w st xs us) := by
  unfold RResP rsE rsV
  by_cases h1 : st = 1
  · subst h1
    rw [if_pos rfl, if_pos rfl, if_pos rfl, if_pos rfl]
    obtain ⟨a, b, hus⟩ := ha.h1 rfl
    obtain ⟨A', c', e, _, hc⟩ := Kd.R_reads h.1
    cases e
    obtain ⟨E', d', e, _, hd⟩ := Kd.R_reads h.2
    cases e
    refine (rresC_any w A xs.length c xs tol E us.length d us rfl rfl hc hd ha.hok hus a b).mono ?_
    rintro e w' ⟨hb, rfl⟩
    exact ⟨hb, E, d, rfl, Kd.C_below hd hb⟩
  · rw [if_neg h1, if_neg h1, if_neg h1, if_neg h1]
    obtain rfl := ha.hu h1
    refine (rresA_any w A xs.length c tol st E 0 d h1).mono ?_
    rintro e w' ⟨rfl, hb⟩
    exact ⟨hb, none, 0, rfl, nil_C _⟩
theorem rnewB_any (w : World) (tol : Int) (h : tol < 0 ∨ 10000 < tol) : Calls Try.prog 56 #[.int .i64 tol] w fun e w' => e = .returned (.tuple #[.agg #[.int .i64 0, .slice none 0 0, .int .i64 0, .slice none 0 0], .int .i64 2]) ∧ Below w.heap.size w w' := by
  have q := Blk.new w [.int .i64 0, .slice none 0 0, .int .i64 0, .slice none 0 0] 92
  have c0 := q.at_ (i := 0) rfl
  have c1 := q.at_ (i := 1) rfl
  have c2 := q.at_ (i := 2) rfl
  have c3 := q.at_ (i := 3) rfl
  have cf := q.free
  clear q
  by_cases h1 : tol < 0
  · have d1 : decide (tol < 0) = true := decide_eq_true h1
    clear h
    go_enter Try.func56, Try.ntmps56
    go_wp2_with fail
    refine bodyPost_ret (v := .tuple #[.agg #[.int .i64 0, .slice none 0 0, .int .i64 0, .slice none 0 0], .int .i64 2]) (by simp [results, Try.results56, go_sem]) rfl ?_
    exact ⟨rfl, below_alloc (Below.refl _ _) _⟩
  · have d1 : decide (tol < 0) = false := decide_eq_false h1
    have d2 : decide (tol > 10000) = true := decide_eq_true (by omega)
    clear h
    go_enter Try.func56, Try.ntmps56
    go_wp2_with fail
    refine bodyPost_ret (v := .tuple #[.agg #[.int .i64 0, .slice none 0 0, .int .i64 0, .slice none 0 0], .int .i64 2]) (by simp [results, Try.results56, go_sem]) rfl ?_
    exact ⟨rfl, below_alloc (Below.refl _ _) _⟩
end Go.Proofs.Ythkfahkkcjagdaa
namespace Go.Proofs.Ythkfahkkcjagdaa
open Go.RowKit Go.Proofs.YthkfahkkcjagdaaW.PrintWords Go.Proofs.YthkfahkkcjagdaaW.PrintMore Go.Proofs.YthkfahkkcjagdaaW.PrintLast
set_option linter.unusedSimpArgs false
set_option linter.unusedVariables false

theorem RefR.below {w w' : World} {N : Nat} {R : Nat → Prop} {A : Option Addr} {c : Nat} {E : Option Addr} {d : Nat} {xs : List Sb} {us : List Int} (h : RefR w N R A c E d xs us) (k : Below w.heap.size w w') : RefR w' N R A c E d xs us := ⟨Kd.R_below h.1 k, Kd.R_below h.2 k⟩
theorem RefR.mono {w : World} {N : Nat} {R R' : Nat → Prop} {A : Option Addr} {c : Nat} {E : Option Addr} {d : Nat} {xs : List Sb} {us : List Int} (h : RefR w N R A c E d xs us) (k : ∀ j, R j → R' j) : RefR w N R' A c E d xs us := ⟨Kd.R_mono h.1 k, Kd.R_mono h.2 k⟩
theorem ty3_92 : ∀ q, q ∈ 3 :: (Kd.int .i64).E → q ≠ 92 := by intro q h; simp [Kd.int, Kd.scalar] at h; omega
theorem RefR.set92 {w : World} {N : Nat} {R : Nat → Prop} {A : Option Addr} {c : Nat} {E : Option Addr} {d : Nat} {xs : List Sb} {us : List Int} (h : RefR w N R A c E d xs us) {b7 : Nat} {cs : List Value} (hb : Blk w b7 cs 92) (j : Nat) (u : Value) : RefR (w.setCell ⟨b7, j, none⟩ u) N R A c E d xs us := ⟨kQ_set h.1 hb j u, Kd.R_set h.2 hb ty3_92 j u⟩
theorem OwnT.set92 {w : World} {N bt : Nat} {S : Nat → Prop} {xs : List Sb} {tol st : Int} {us : List Int} (h : OwnT w N S bt xs tol st us) {b7 : Nat} {cs : List Value} (hb : Blk w b7 cs 92) (j : Nat) (u : Value) : OwnT (w.setCell ⟨b7, j, none⟩ u) N S bt xs tol st us := by
  obtain ⟨vs, vu, h⟩ := h
  exact ⟨vs, vu, h.b.far (h.b.ne_of_type hb (by decide)) _, kQ_set h.s hb j u, Kd.R_set h.u hb ty3_92 j u, h.hb, h.hu⟩
theorem set4 {w : World} {N b7 : Nat} {cs : List Value} {P : World → Prop} (hb : Blk w b7 cs 92) (hl : cs.length = 4) (hN : N ≤ b7) (v0 v1 v2 v3 : Value)
    (hP : ∀ w' cs' j u, Blk w' b7 cs' 92 → P w' → P (w'.setCell ⟨b7, j, none⟩ u)) (h : P w) (w0 : World) (h0 : Below N w0 w) :
    P ((((w.setCell ⟨b7, 0, none⟩ v0).setCell ⟨b7, 1, none⟩ v1).setCell ⟨b7, 2, none⟩ v2).setCell ⟨b7, 3, none⟩ v3) ∧ Blk ((((w.setCell ⟨b7, 0, none⟩ v0).setCell ⟨b7, 1, none⟩ v1).setCell ⟨b7, 2, none⟩ v2).setCell ⟨b7, 3, none⟩ v3) b7 [v0, v1, v2, v3] 92 ∧ Below N w0 ((((w.setCell ⟨b7, 0, none⟩ v0).setCell ⟨b7, 1, none⟩ v1).setCell ⟨b7, 2, none⟩ v2).setCell ⟨b7, 3, none⟩ v3) := by
  refine ⟨hP _ _ _ _ (((hb.set 0 v0).set 1 v1).set 2 v2) (hP _ _ _ _ ((hb.set 0 v0).set 1 v1) (hP _ _ _ _ (hb.set 0 v0) (hP _ _ _ _ hb h))), ?_, Below.setCell (Below.setCell (Below.setCell (Below.setCell h0 (p := ⟨b7, 0, none⟩) hN _) (p := ⟨b7, 1, none⟩) hN _) (p := ⟨b7, 2, none⟩) hN _) (p := ⟨b7, 3, none⟩) hN _⟩
  have := (((hb.set 0 v0).set 1 v1).set 2 v2).set 3 v3
  match cs, hl, this with
  | [a, b, c, d], _, this => exact this
/-- Both tests in memory. -/
def LawM (N bt b7 : Nat) (tol : Int) (w : World) : Prop := ∃ (S R : Nat → Prop) (xs : List Sb) (st : Int) (us : List Int) (A : Option Addr) (c : Nat) (E : Option Addr) (d : Nat), TSt xs st us ∧ OwnT w N S bt xs tol st us ∧ RefR w N R A c E d xs us ∧ Blk w b7 [.int .i64 tol, .slice A xs.length c, .int .i64 st, .slice E us.length d] 92 ∧ (st = 0 → E = none ∧ d = 0) ∧ (∀ k, S k → ¬ R k ∧ k ≠ bt ∧ k ≠ b7 ∧ N ≤ k) ∧ (∀ k, R k → k ≠ bt ∧ k ≠ b7)
theorem at_QB {w : World} {A : Option Addr} {n : Nat} {xs : List Sb} (h : kQ.C w A n xs) (i : Nat) (h1 : i < n) : ∃ ad, A = some ad ∧ ∀ W, Below w.heap.size w W → W.cell? (ad.add (i * 5)) = some (.int .i64 (rdQ xs i).raw) ∧ W.cell? ⟨(ad.add (i * 5)).block, (ad.add (i * 5)).off + 1, none⟩ = some (.int .i64 (rdQ xs i).dry) ∧ W.cell? ⟨(ad.add (i * 5)).block, (ad.add (i * 5)).off + 2, none⟩ = some (.int .i64 (rdQ xs i).ash) ∧ W.cell? ⟨(ad.add (i * 5)).block, (ad.add (i * 5)).off + 3, none⟩ = some (.int .i64 (rdQ xs i).gre) ∧ W.cell? ⟨(ad.add (i * 5)).block, (ad.add (i * 5)).off + 4, none⟩ = some (.int .i64 (rdQ xs i).veg) := by
  obtain ⟨ad, e, _⟩ := at_Q h i h1
  refine ⟨ad, e, fun W hW => ?_⟩
  obtain ⟨ad', e', h'⟩ := at_Q (Kd.C_below h hW) i h1
  rw [e] at e'
  cases e'
  exact h'
theorem OwnT.bound {w : World} {N bt : Nat} {S : Nat → Prop} {xs : List Sb} {tol st : Int} {us : List Int} (h : OwnT w N S bt xs tol st us) : OwnT w N (fun k => S k ∧ k < w.heap.size) bt xs tol st us := by
  obtain ⟨vs, vu, h⟩ := h
  exact ⟨vs, vu, h.b, Kd.R_mono (Kd.R_bound h.s) (fun j hj => ⟨hj.1, hj.2.2.1⟩), Kd.R_mono (Kd.R_bound h.u) (fun j hj => ⟨hj.1, hj.2.2.1⟩), h.hb, h.hu⟩
theorem ostate_any {w : World} {N bt : Nat} {S : Nat → Prop} {xs : List Sb} {tol st : Int} {us : List Int} (h : OwnT w N S bt xs tol st us) : Calls Try.prog 53 #[.pointer (some ⟨bt, 0, none⟩)] w fun e w' => e = .returned (.int .i64 st) ∧ w = w' := by
  obtain ⟨_, _, h⟩ := h
  exact stateT_any h
theorem oneed_any {w : World} {N bt : Nat} {S : Nat → Prop} {xs : List Sb} {tol st : Int} {us : List Int} (h : OwnT w N S bt xs tol st us) (hl : xs.length ≤ 8) : Calls Try.prog 54 #[.pointer (some ⟨bt, 0, none⟩)] w fun e w' => e = .returned (.int .i64 (needS st xs.length)) ∧ w = w' := by
  obtain ⟨_, _, h⟩ := h
  exact needT_any h hl
theorem TSt.ulen {xs : List Sb} {st : Int} {us : List Int} (h : TSt xs st us) : us.length < 9 := by
  by_cases h1 : st = 1
  · have := (h.h1 h1).2.1; omega
  · rw [h.hu h1]; decide
theorem RI_cells {w : World} {N m c : Nat} {B : Option Addr} {us : List Int} (h : RI w N (fun _ => True) (.slice B m c) us) : m = us.length ∧ (us = [] ∨ ∃ g cs, B = some ⟨g, 0, none⟩ ∧ N ≤ g ∧ us.length ≤ cs.length ∧ Blk w g cs 3) := by
  have ho := RI_own h
  obtain ⟨A, c', e⟩ := Kd.R_slice h
  cases e
  refine ⟨rfl, ?_⟩
  rcases ho.2 with ⟨e, e2⟩ | ⟨g, cap, cur, e, hg, hh, hc, hm, hs, ht⟩
  · exact .inl (List.eq_nil_of_length_eq_zero e2)
  · cases e
    refine .inr ⟨g, cur.toList, rfl, hg, ?_, hh⟩
    have := hs
    simp at this ⊢
    omega
set_option maxHeartbeats 16000000 in
set_option maxRecDepth 100000 in
theorem testsLaw_any (w : World) (A : Option Addr) (len cap : Nat) (zs : List Sb) (tol : Int) (hn : zs.length = len) (hz : kQ.C w A len zs) :
    Calls Try.prog 15 #[.int .i64 tol, .slice A len cap] w fun e w' => e = .returned (.bool true) ∧ Below w.heap.size w w' := by
  have HAL := Aside0.mk alive_any
  by_cases hl : 40 < len
  · have d1 : decide ((len : Int) > 40) = true := decide_eq_true (by omega)
    clear hz hn hl
    go_enter Try.func15, Try.ntmps15
    go_wp2_with ((with_reducible refine (HAL.out _).mono ?_); rintro e w' ⟨rfl, hb2⟩; have HB2 := Aside0.mk hb2; clear hb2)
    go_ret
    exact ⟨rfl, HB2.out⟩
  have d1 : decide ((len : Int) > 40) = false := decide_eq_false (by omega)
  by_cases ht : 0 ≤ tol ∧ tol ≤ 10000
  case neg =>
    have HN := Aside0.mk (newB_any w tol (by omega))
    have HRN := Aside0.mk (fun W => rnewB_any W tol (by omega))
    clear ht hz hn hl
    by_cases h0 : (0 : Int) < len
    · go_enter Try.func15, Try.ntmps15
      go_upto_region 4 with ((with_reducible refine HN.out.mono ?_); rintro e5 w5 ⟨rfl, hb5⟩; have H5 := Aside0.mk hb5; clear hb5)
      go_upto_region 5 with ((with_reducible refine (HRN.out _).mono ?_); rintro e6 w6 ⟨rfl, hb6⟩; have H6 := Aside0.mk (below_alloc (below_step H5.out hb6) (.cells #[.int .i64 0, .slice none 0 0, .int .i64 0, .slice none 0 0] 92)); clear hb6)
      go_wp2_with fail
      refine wp_loop_rounds 1 ?_
      rw [rounds_succ]
      go_wp2_with ((with_reducible refine (HAL.out _).mono ?_); rintro e w' ⟨rfl, hb2⟩; have HB2 := Aside0.mk (below_step H6.out hb2); clear hb2)
      go_ret
      exact ⟨rfl, HB2.out⟩
    · go_enter Try.func15, Try.ntmps15
      go_upto_region 4 with ((with_reducible refine HN.out.mono ?_); rintro e5 w5 ⟨rfl, hb5⟩; have H5 := Aside0.mk hb5; clear hb5)
      go_upto_region 5 with ((with_reducible refine (HRN.out _).mono ?_); rintro e6 w6 ⟨rfl, hb6⟩; have H6 := Aside0.mk (below_alloc (below_step H5.out hb6) (.cells #[.int .i64 0, .slice none 0 0, .int .i64 0, .slice none 0 0] 92)); clear hb6)
      go_wp2_with fail
      refine wp_loop_rounds 1 ?_
      rw [rounds_succ]
      go_wp2_with ((with_reducible refine (HAL.out _).mono ?_); rintro e w' ⟨rfl, hb2⟩; have HB2 := Aside0.mk (below_step H6.out hb2); clear hb2)
      go_ret
      exact ⟨rfl, HB2.out⟩
  have HN := Aside0.mk (newT_any w tol ht)
  have HRN := Aside0.mk (fun W => rnewT_any W tol ht)
  have HZ := Aside0.mk (And.intro hn hz)
  have HT := Aside0.mk ht
  clear hn hz ht
  obtain ⟨P, hP⟩ : ∃ P, P = fun (e : Ending) (w' : World) => e = .returned (.bool true) ∧ Below w.heap.size w w' := ⟨_, rfl⟩
  rw [← hP]
  have HP := Aside0.mk hP
  clear hP
  go_enter Try.func15, Try.ntmps15
  go_upto_region 4 with ((with_reducible refine HN.out.mono ?_); rintro e5 w5 ⟨rfl, hb5, hT5⟩; have H5 := Aside0.mk (And.intro hb5 hT5); clear hb5 hT5)
  obtain ⟨bt, hbt⟩ : ∃ z, z = w.heap.size := ⟨_, rfl⟩
  rw [← hbt]
  have HBT := Aside0.mk hbt
  clear hbt
  go_upto_region 5 with ((with_reducible refine (HRN.out _).mono ?_); rintro e6 w6 ⟨rfl, hb6⟩; have H6 := Aside0.mk hb6; clear hb6)
  obtain ⟨b7, hb7⟩ : ∃ z, z = w6.heap.size := ⟨_, rfl⟩
  have H7 : Aside0 (Below w.heap.size w (w6.alloc (.cells #[.int .i64 tol, .slice none 0 0, .int .i64 0, .slice none 0 0] 92)) ∧ w.heap.size ≤ b7 ∧ LawM w.heap.size bt b7 tol (w6.alloc (.cells #[.int .i64 tol, .slice none 0 0, .int .i64 0, .slice none 0 0] 92))) := by
    have hx := below_alloc (Below.refl w6.heap.size w6) (.cells #[.int .i64 tol, .slice none 0 0, .int .i64 0, .slice none 0 0] 92)
    have h6 := below_step H5.out.1 H6.out
    have hO : OwnT w6 w.heap.size (fun _ => False) bt [] tol 0 [] := by rw [HBT.out]; exact ⟨_, _, (H5.out.2 _).below H6.out⟩
    refine ⟨⟨below_step h6 hx, by rw [hb7]; exact h6.size, fun _ => False, fun _ => False, [], 0, [], none, 0, none, 0, TSt.new, hO.below hx, ⟨Kd.R_nil _ _ _ _ _, Kd.R_nil _ _ _ _ _⟩, by rw [hb7]; exact Blk.new w6 _ 92, fun _ => ⟨rfl, rfl⟩, fun _ h => h.elim, fun _ h => h.elim⟩⟩
  rw [← hb7]
  clear hb7
  generalize w6.alloc (.cells #[.int .i64 tol, .slice none 0 0, .int .i64 0, .slice none 0 0] 92) = w7 at H7 ⊢
  go_wp2_with fail
  go_loopw [9, 10, 11, 12, 13, 14, 15, 16, 17, 18] (fun v9 _ _ _ _ _ _ _ _ _ wr => ∃ i : Nat, v9 = .int .i64 i ∧ i ≤ len ∧ Aside0 (Below w.heap.size w wr ∧ LawM w.heap.size bt b7 tol wr)) (fun v9 _ _ _ _ _ _ _ _ _ _ => len - (intOf v9).toNat)
  case atStart => exact ⟨0, rfl, by omega, ⟨H7.out.1, H7.out.2.2⟩⟩
  case round =>
    obtain ⟨i, rfl, hi, HI⟩ := hrel
    obtain ⟨wo, rfl⟩ : ∃ wo : World, wo = wr := ⟨_, rfl⟩
    by_cases hlt : i < len
    · have hlti : (i : Int) < len := by omega
      obtain ⟨hB, S, R, xs, st, us, A7, c7, E7, d7, hST, hO, hR, hb, h0, hS1, hS2⟩ := HI.out
      have hNo : w.heap.size ≤ wo.heap.size := hB.size
      have hb7o := hb.lt
      obtain ⟨ad, ea, hsub⟩ := at_QB HZ.out.2 i hlt
      cases ea
      generalize rdQ zs i = Y at hsub
      obtain ⟨qr, qd, qa, qg, qv⟩ := Y
      dsimp only at hsub
      have HSUB := Aside0.mk hsub
      obtain ⟨d0, d1', d2, d3, d4⟩ := hsub _ hB
      have HOF := Aside0.mk (ofeed_any hO hST HT.out (fun h => (hS1 _ h).2.1 rfl) ⟨qr, qd, qa, qg, qv⟩)
      have HRF := Aside0.mk (fun (W : World) (hk : Kp (fun k => k = bt ∨ S k ∨ wo.heap.size ≤ k) wo W) => (rfeed_any (w := W) (N := w.heap.size) (R := fun k => R k ∧ k < wo.heap.size) (A := A7) (c := c7) (E := E7) (d := d7) (xs := xs) (tol := tol) (st := st) (us := us)
        ⟨Kd.R_step (Kd.R_mono (Kd.R_bound hR.1) (fun j hj => ⟨hj.1, hj.2.2.1⟩)) (fun j hj hl => hk.block j hl (fun h => by rcases h with h | h | h; exact (hS2 _ hj.1).1 h; exact (hS1 _ h).1 hj.1; have := hj.2; omega)),
          Kd.R_step (Kd.R_mono (Kd.R_bound hR.2) (fun j hj => ⟨hj.1, hj.2.2.1⟩)) (fun j hj hl => hk.block j hl (fun h => by rcases h with h | h | h; exact (hS2 _ hj.1).1 h; exact (hS1 _ h).1 hj.1; have := hj.2; omega))⟩
        (Nat.le_trans hNo hk.size) hST HT.out h0 ⟨qr, qd, qa, qg, qv⟩))
      have HST := Aside0.mk (hST.fd tol ⟨qr, qd, qa, qg, qv⟩)
      have HB7 : Aside0 (bt ≠ b7 ∧ bt < wo.heap.size) := ⟨by obtain ⟨_, _, hh⟩ := hO; exact hh.b.ne_of_type hb (by decide), by obtain ⟨_, _, hh⟩ := hO; exact hh.b.lt⟩
      have HDJ := Aside0.mk (And.intro hS1 hS2)
      have HB := Aside0.mk (And.intro hB (And.intro hb (And.intro hNo hb7o)))
      unfold OFeedPost at HOF
      unfold RFPost at HRF
      dsimp only at HOF HRF
      generalize fdX xs st ⟨qr, qd, qa, qg, qv⟩ = X at HOF HRF HST
      generalize fdS xs tol st ⟨qr, qd, qa, qg, qv⟩ = s' at HOF HRF HST
      generalize fdU xs tol st us ⟨qr, qd, qa, qg, qv⟩ = u' at HOF HRF HST
      generalize fdE st ⟨qr, qd, qa, qg, qv⟩ = g at HOF HRF
      clear hST hO hR hb h0 hS1 hS2 hNo hb7o HI hsub
      go_upto_region 11 with ((with_reducible refine HOF.out.mono ?_); rintro e10 w10 ⟨rfl, hk10, ho10⟩; have H10 := Aside0.mk (And.intro hk10 ho10); clear hk10 ho10)
      have HB10 : Aside0 (Below w.heap.size w w10) := ⟨((Kp.of_below HB.out.1 : Kp (fun k => w.heap.size ≤ k) w wo).trans H10.out.1 (fun j hj hk => by
        rcases hk with hk | hk | hk
        · have := HBT.out; omega
        · exact (HDJ.out.1 _ hk).2.2.2
        · have := HB.out.2.2.1; omega)).below_of (fun _ h => h)⟩
      have hbw10 : Blk w10 b7 [.int .i64 tol, .slice A7 xs.length c7, .int .i64 st, .slice E7 us.length d7] 92 := HB.out.2.1.kp H10.out.1 (fun hk => by rcases hk with hk | hk | hk; exact HB7.out.1 hk.symm; exact (HDJ.out.1 _ hk).2.2.1 rfl; have := HB.out.2.2.2; omega)
      have s0 := hbw10.at_ (i := 0) rfl
      have s1 := hbw10.at_ (i := 1) rfl
      have s2 := hbw10.at_ (i := 2) rfl
      have s3 := hbw10.at_ (i := 3) rfl
      obtain ⟨e0, e1, e2, e3, e4⟩ := HSUB.out _ HB10.out
      have HBW10 := Aside0.mk hbw10
      have HS11 := Aside0.mk (fun (W : World) (hW : Below w10.heap.size w10 W) => (⟨⟨hW⟩, cell_keep hW s0, cell_keep hW s1, cell_keep hW s2, cell_keep hW s3, cell_keep hW e0, cell_keep hW e1, cell_keep hW e2, cell_keep hW e3, cell_keep hW e4⟩ : Aside0 (Below w10.heap.size w10 W) ∧ W.cell? ⟨b7, 0, none⟩ = some (.int .i64 tol) ∧ W.cell? ⟨b7, 1, none⟩ = some (.slice A7 xs.length c7) ∧ W.cell? ⟨b7, 2, none⟩ = some (.int .i64 st) ∧ W.cell? ⟨b7, 3, none⟩ = some (.slice E7 us.length d7) ∧ W.cell? (ad.add (i * 5)) = some (.int .i64 qr) ∧ W.cell? ⟨(ad.add (i * 5)).block, (ad.add (i * 5)).off + 1, none⟩ = some (.int .i64 qd) ∧ W.cell? ⟨(ad.add (i * 5)).block, (ad.add (i * 5)).off + 2, none⟩ = some (.int .i64 qa) ∧ W.cell? ⟨(ad.add (i * 5)).block, (ad.add (i * 5)).off + 3, none⟩ = some (.int .i64 qg) ∧ W.cell? ⟨(ad.add (i * 5)).block, (ad.add (i * 5)).off + 4, none⟩ = some (.int .i64 qv)))
      have HRFW := Aside0.mk (fun (W : World) (hW : Below w10.heap.size w10 W) => HRF.out W (H10.out.1.then_below hW))
      clear d0 d1' d2 d3 d4 hbw10 s0 s1 s2 s3 e0 e1 e2 e3 e4
      go_cut [11, 12] from 59 to 67 (fun a b W => ∃ (b11 : Nat) (A8 : Option Addr) (c8 : Nat) (E8 : Option Addr) (d8 : Nat), a = .pointer (some ⟨b11, 0, none⟩) ∧ b = .int .i64 g ∧ Aside0 (Blk W b11 [.int .i64 tol, .slice A8 X.length c8, .int .i64 s', .slice E8 u'.length d8] 92 ∧ RefR W w.heap.size (fun k => (R k ∧ k < wo.heap.size) ∨ w10.heap.size ≤ k) A8 c8 E8 d8 X u' ∧ (s' = 0 → E8 = none ∧ d8 = 0) ∧ Below w10.heap.size w10 W))
      case first =>
        clear HOF HRF HST HB HB7 HDJ HSUB HP HT HZ HN HRN H5 H6 H7 H10 HBW10 HB10 HAL HBT
        go_region_held3 (fun W => Aside0 (Below w10.heap.size w10 W) ∧ W.cell? ⟨b7, 0, none⟩ = some (.int .i64 tol) ∧ W.cell? ⟨b7, 1, none⟩ = some (.slice A7 xs.length c7) ∧ W.cell? ⟨b7, 2, none⟩ = some (.int .i64 st) ∧ W.cell? ⟨b7, 3, none⟩ = some (.slice E7 us.length d7) ∧ W.cell? (ad.add (i * 5)) = some (.int .i64 qr) ∧ W.cell? ⟨(ad.add (i * 5)).block, (ad.add (i * 5)).off + 1, none⟩ = some (.int .i64 qd) ∧ W.cell? ⟨(ad.add (i * 5)).block, (ad.add (i * 5)).off + 2, none⟩ = some (.int .i64 qa) ∧ W.cell? ⟨(ad.add (i * 5)).block, (ad.add (i * 5)).off + 3, none⟩ = some (.int .i64 qg) ∧ W.cell? ⟨(ad.add (i * 5)).block, (ad.add (i * 5)).off + 4, none⟩ = some (.int .i64 qv))
          ((refine HS11.out _ ?_; repeat (with_reducible (first | exact Below.refl _ _ | exact HB11.out | refine below_drew ?_ | refine below_alloc ?_ _ | refine Below.setCell ?_ ?_ _ | exact Nat.le_refl _))))
          (first | ((with_reducible refine (HRFW.out _ (hbT (by assumption))).mono ?_); rintro e11 w11 ⟨A8, c8, E8, d8, rfl, hb11, hr11, h011⟩; have HB11 := Aside0.mk (below_step (hbT (by assumption)) hb11); have H11 := Aside0.mk (And.intro hr11 h011); (first | (with_reducible have q11 := (Blk.new _ [.int .i64 0, .slice none 0 0, .int .i64 0, .slice none 0 0] 92).below hb11; have HQ11 := Aside0.mk q11; have z0 := q11.at_ (i := 0) rfl; have z1 := q11.at_ (i := 1) rfl; have z2 := q11.at_ (i := 2) rfl; have z3 := q11.at_ (i := 3) rfl; have zf := q11.free; clear q11) | (with_reducible have q11 := ((Blk.new _ [.int .i64 0, .slice none 0 0, .int .i64 0, .slice none 0 0] 92).drew).below hb11; have HQ11 := Aside0.mk q11; have z0 := q11.at_ (i := 0) rfl; have z1 := q11.at_ (i := 1) rfl; have z2 := q11.at_ (i := 2) rfl; have z3 := q11.at_ (i := 3) rfl; have zf := q11.free; clear q11) | skip); clear hr11 h011))
        all_goals go_wp2_with fail
        all_goals go_meet
        case rel =>
          have hx := below_alloc (Below.refl w11.heap.size w11) (.cells #[.int .i64 tol, .slice A8 X.length c8, .int .i64 s', .slice E8 u'.length d8] 92)
          exact ⟨w11.heap.size, A8, c8, E8, d8, rfl, rfl, ⟨Blk.new w11 _ 92, (H11.out.1.below hx).mono (fun j hj => hj), H11.out.2, below_step HB11.out hx⟩⟩
        case rel =>
          have hx := set4 (P := fun W => RefR W _ _ A8 c8 E8 d8 X u') HQ11.out rfl (Nat.le_refl w10.heap.size) (.int .i64 tol) (.slice A8 X.length c8) (.int .i64 s') (.slice E8 u'.length d8) (fun w' cs' j u hb h => h.set92 hb j u) H11.out.1 w10 HB11.out
          exact ⟨w10.heap.size, A8, c8, E8, d8, rfl, rfl, ⟨hx.2.1, hx.1.mono (fun j hj => hj.imp id (fun h => by simp at h; omega)), H11.out.2, hx.2.2⟩⟩
      case rest =>
      obtain ⟨b11, A8, c8, E8, d8, rfl, rfl, HC11⟩ := hcut
      have hb7c := HBW10.out.below HC11.out.2.2.2
      have HX0 := Aside0.mk (set4 (P := fun W => OwnT W w.heap.size (fun k => (S k ∨ wo.heap.size ≤ k) ∧ k < w10.heap.size) bt X tol s' u' ∧ RefR W w.heap.size (fun k => (R k ∧ k < wo.heap.size) ∨ w10.heap.size ≤ k) A8 c8 E8 d8 X u') hb7c rfl H7.out.2.1 (.int .i64 tol) (.slice A8 X.length c8) (.int .i64 s') (.slice E8 u'.length d8)
        (fun w' cs' j u hb h => ⟨h.1.set92 hb j u, h.2.set92 hb j u⟩) ⟨(H10.out.2.bound).below HC11.out.2.2.2, HC11.out.2.1⟩ w (below_step HB10.out HC11.out.2.2.2))
      have t0 := HC11.out.1.at_ (i := 0) rfl
      have t1 := HC11.out.1.at_ (i := 1) rfl
      have t2 := HC11.out.1.at_ (i := 2) rfl
      have t3 := HC11.out.1.at_ (i := 3) rfl
      have s0 := hb7c.at_ (i := 0) rfl
      have s1 := hb7c.at_ (i := 1) rfl
      have s2 := hb7c.at_ (i := 2) rfl
      have s3 := hb7c.at_ (i := 3) rfl
      have sf := hb7c.free
      clear hb7c
      go_upto_region 13 with fail
      clear t0 t1 t2 t3 s0 s1 s2 s3 sf
      generalize ((((wc.setCell ⟨b7, 0, none⟩ (.int .i64 tol)).setCell ⟨b7, 1, none⟩ (.slice A8 X.length c8)).setCell ⟨b7, 2, none⟩ (.int .i64 s')).setCell ⟨b7, 3, none⟩ (.slice E8 u'.length d8)) = w12 at HX0 ⊢
      obtain ⟨HX0⟩ := HX0
      have HX := Aside0.mk HX0
      have HS13 := Aside0.mk (fun (W : World) (hW : Below w12.heap.size w12 W) => (⟨⟨hW⟩, (HX.out.2.1.below hW).at_ (i := 0) rfl, (HX.out.2.1.below hW).at_ (i := 1) rfl, (HX.out.2.1.below hW).at_ (i := 2) rfl, (HX.out.2.1.below hW).at_ (i := 3) rfl⟩ : Aside0 (Below w12.heap.size w12 W) ∧ W.cell? ⟨b7, 0, none⟩ = some (.int .i64 tol) ∧ W.cell? ⟨b7, 1, none⟩ = some (.slice A8 X.length c8) ∧ W.cell? ⟨b7, 2, none⟩ = some (.int .i64 s') ∧ W.cell? ⟨b7, 3, none⟩ = some (.slice E8 u'.length d8)))
      have HSTA := Aside0.mk (fun (W : World) (hW : Below w12.heap.size w12 W) => ostate_any (HX.out.1.1.below hW))
      have HNE := Aside0.mk (fun (W : World) (hW : Below w12.heap.size w12 W) => oneed_any (HX.out.1.1.below hW) HST.out.hl)
      have HRN2 := Aside0.mk (fun (W : World) => rneedT_any W A8 X.length c8 tol s' E8 u'.length d8 HST.out.hl)
      obtain ⟨nd, hnd⟩ : ∃ z, z = needS s' X.length := ⟨_, rfl⟩
      rw [← hnd] at HNE HRN2
      have q1 : (g != g) = false := by simp
      have q2 : (s' != s') = false := by simp
      have q3 : (nd != nd) = false := by simp
      clear hnd HX0
      go_region_held3 (fun W => Aside0 (Below w12.heap.size w12 W) ∧ W.cell? ⟨b7, 0, none⟩ = some (.int .i64 tol) ∧ W.cell? ⟨b7, 1, none⟩ = some (.slice A8 X.length c8) ∧ W.cell? ⟨b7, 2, none⟩ = some (.int .i64 s') ∧ W.cell? ⟨b7, 3, none⟩ = some (.slice E8 u'.length d8))
        ((refine HS13.out _ ?_; repeat (with_reducible (first | exact Below.refl _ _ | exact HB14.out | exact hbT (by assumption) | refine below_drew ?_))))
        (first
          | ((with_reducible refine (HSTA.out _ (hbT (by assumption))).mono ?_); rintro e13 w13 ⟨rfl, rfl⟩)
          | ((with_reducible refine (HNE.out _ (hbT (by assumption))).mono ?_); rintro e13 w13 ⟨rfl, rfl⟩)
          | ((with_reducible refine (HRN2.out _).mono ?_); rintro e14 w14 ⟨rfl, hb14⟩; have HB14 := Aside0.mk (below_step (hbT (by assumption)) hb14); clear hb14))
      clear HS13 HSTA HNE HRN2
      have HORF := Aside0.mk (fun (W : World) (hW : Below w12.heap.size w12 W) => oresult_any (HX.out.1.1.below hW) HST.out)
      have HRRF := Aside0.mk (fun (W : World) (hW : Below w12.heap.size w12 W) => rresult_any tol (HX.out.1.2.below hW) HST.out)
      unfold OResPost at HORF
      unfold RResP at HRRF
      generalize rsV woolS s' X u' = vx at HORF HRRF
      generalize rsV Sb.veg s' X u' = vy at HORF HRRF
      generalize rsV Sb.raw s' X u' = vz at HORF HRRF
      generalize rsE s' = er at HORF HRRF
      have q4 : (er != er) = false := by simp
      have HU8 : Aside0 (u'.length < 9) := ⟨HST.out.ulen⟩
      go_wp2_with fail
      go_loopw [13, 14, 15, 16, 17, 18] (fun v13 _ _ _ _ _ wr => ∃ t : Nat, v13 = .int .i64 t ∧ t ≤ 2 ∧ Aside0 (Below w12.heap.size w12 wr)) (fun v13 _ _ _ _ _ _ => 2 - (intOf v13).toNat)
      case atStart => exact ⟨0, rfl, by omega, ⟨HB14.out⟩⟩
      case round =>
        obtain ⟨t, rfl, ht, HI2⟩ := hrel
        obtain ⟨wq, rfl⟩ : ∃ wq : World, wq = wr := ⟨_, rfl⟩
        by_cases ht2 : t < 2
        · have hti : (t : Int) < 2 := by omega
          have HOR := Aside0.mk (HORF.out _ HI2.out)
          go_upto_region 19 with ((with_reducible refine HOR.out.mono ?_); rintro e18 w18 ⟨hb18, B18, c18, rfl, hr18⟩; have H18 := Aside0.mk (And.intro (below_step HI2.out hb18) hr18); clear hb18 hr18)
          obtain ⟨b14, hb14⟩ : ∃ z, z = w18.heap.size := ⟨_, rfl⟩
          have hx := below_alloc (Below.refl w18.heap.size w18) (.cells #[.int .i64 vx, .int .i64 vy, .int .i64 vz, .slice B18 u'.length c18] 83)
          have hq := Blk.new w18 [.int .i64 vx, .int .i64 vy, .int .i64 vz, .slice B18 u'.length c18] 83
          rw [← hb14] at hq ⊢
          have H14 := Aside0.mk (And.intro hq (And.intro (Kd.R_below H18.out.2 hx) (below_step H18.out.1 hx)))
          clear hx hq hb14
          generalize w18.alloc (.cells #[.int .i64 vx, .int .i64 vy, .int .i64 vz, .slice B18 u'.length c18] 83) = w19 at H14 ⊢
          have s0 := (HX.out.2.1.below H14.out.2.2).at_ (i := 0) rfl
          have s1 := (HX.out.2.1.below H14.out.2.2).at_ (i := 1) rfl
          have s2 := (HX.out.2.1.below H14.out.2.2).at_ (i := 2) rfl
          have s3 := (HX.out.2.1.below H14.out.2.2).at_ (i := 3) rfl
          go_upto_region 20 with ((with_reducible refine (HRRF.out _ H14.out.2.2).mono ?_); rintro e20 w20 ⟨hb20, B19, c19, rfl, hr20⟩; have H20 := Aside0.mk (And.intro hb20 hr20); clear hb20 hr20)
          clear s0 s1 s2 s3
          obtain ⟨b16, hb16⟩ : ∃ z, z = w20.heap.size := ⟨_, rfl⟩
          have hx := below_alloc (Below.refl w20.heap.size w20) (.cells #[.int .i64 vx, .int .i64 vy, .int .i64 vz, .slice B19 u'.length c19] 83)
          have hq := Blk.new w20 [.int .i64 vx, .int .i64 vy, .int .i64 vz, .slice B19 u'.length c19] 83
          rw [← hb16] at hq ⊢
          have hy := below_step H20.out.1 hx
          have H16 := Aside0.mk (And.intro hq (And.intro (Kd.C_below H20.out.2 hx) (And.intro (H14.out.1.below hy) (And.intro (Kd.R_below H14.out.2.1 hy) (below_step H14.out.2.2 hy)))))
          clear hx hq hy hb16
          generalize w20.alloc (.cells #[.int .i64 vx, .int .i64 vy, .int .i64 vz, .slice B19 u'.length c19] 83) = w21 at H16 ⊢
          have HFO : Aside0 (Calls Try.prog 52 #[.agg #[.int .i64 vx, .int .i64 vy, .int .i64 vz, .slice B18 u'.length c18], .agg #[.int .i64 vx, .int .i64 vy, .int .i64 vz, .slice B19 u'.length c19]] w21 fun e w' => e = .returned (.bool true) ∧ Below w21.heap.size w21 w') := ⟨by
            obtain ⟨_, _, e, _, hc⟩ := Kd.R_reads H16.out.2.2.2.1
            cases e
            exact found_yes w21 vx vy vz _ _ _ c18 c19 u' hc H16.out.2.1⟩
          have s0 := H16.out.2.2.1.at_ (i := 0) rfl
          have s1 := H16.out.2.2.1.at_ (i := 1) rfl
          have s2 := H16.out.2.2.1.at_ (i := 2) rfl
          have s3 := H16.out.2.2.1.at_ (i := 3) rfl
          have t0 := H16.out.1.at_ (i := 0) rfl
          have t1 := H16.out.1.at_ (i := 1) rfl
          have t2 := H16.out.1.at_ (i := 2) rfl
          have t3 := H16.out.1.at_ (i := 3) rfl
          go_upto_region 22 with ((with_reducible refine HFO.out.mono ?_); rintro e22 w22 ⟨rfl, hb22⟩; have H22 := Aside0.mk (And.intro (H16.out.2.2.1.below hb22) (And.intro (Kd.R_below H16.out.2.2.2.1 hb22) (below_step H16.out.2.2.2.2 hb22))); clear hb22)
          clear s0 s1 s2 s3 t0 t1 t2 t3
          have HCE := Aside0.mk (RI_cells H22.out.2.1)
          have HGE : Aside0 (w12.heap.size ≤ wq.heap.size) := ⟨HI2.out.size⟩
          obtain ⟨m, hm⟩ : ∃ z, z = u'.length := ⟨_, rfl⟩
          have HMU := Aside0.mk hm
          have hm9 : m < 9 := by rw [hm]; exact HU8.out
          rw [← hm] at H22 HCE
          clear hm
          go_wp2_with fail
          go_loopw [18] (fun v18 wr => ∃ n : Nat, v18 = .int .i64 n ∧ n ≤ m ∧ Aside0 (Below w12.heap.size w12 wr ∧ Blk wr b14 [.int .i64 vx, .int .i64 vy, .int .i64 vz, .slice B18 m c18] 83 ∧ (m = 0 ∨ ∃ g cs, B18 = some ⟨g, 0, none⟩ ∧ w12.heap.size ≤ g ∧ m ≤ cs.length ∧ Blk wr g cs 3))) (fun v18 _ => m - (intOf v18).toNat)
          case atStart => exact ⟨0, rfl, by omega, ⟨H22.out.2.2, H22.out.1, by
            rcases HCE.out.2 with h | ⟨g, cs, e, hg, hc, hbk⟩
            · left; rw [HMU.out, h]; rfl
            · exact .inr ⟨g, cs, e, Nat.le_trans HGE.out hg, hc, hbk⟩⟩⟩
          case round =>
            obtain ⟨n, rfl, hn, HI3⟩ := hrel
            obtain ⟨hi1, hi2, hi3⟩ := HI3.out
            have s3 := hi2.at_ (i := 3) rfl
            by_cases hnm : n < m
            · have hnmi : (n : Int) < m := by omega
              rcases hi3 with h | ⟨g9, cs, e, hg, hc, hbk⟩
              · omega
              subst e
              have cg := hbk.at_ (List.getElem?_eq_getElem (show n < cs.length by omega))
              have fg := hbk.free n
              have HN := Aside0.mk (And.intro hi1 (And.intro hi2 (And.intro hg (And.intro hc hbk))))
              clear hi1 hi2 hg hbk HI3
              go_wp2_with fail
              go_roundw
              case rel => exact ⟨n + 1, by go_num, by omega, ⟨Below.setCell HN.out.1 (p := ⟨g9, n, none⟩) HN.out.2.2.1 _, HN.out.2.1.far (HN.out.2.1.ne_of_type HN.out.2.2.2.2 (by decide)) _, .inr ⟨g9, _, rfl, HN.out.2.2.1, by rw [List.length_set]; exact HN.out.2.2.2.1, HN.out.2.2.2.2.set n _⟩⟩⟩
              case measure => simp [intOf]; omega
            · have hnmi : ¬ (n : Int) < m := by omega
              have HN := Aside0.mk hi1
              clear hi1 hi2 hi3 HI3
              go_wp2_with fail
              go_roundw
              case rel => exact ⟨t + 1, by go_num, by omega, HN⟩
              case measure => simp [intOf]; omega
        · have hti : ¬ (t : Int) < 2 := by omega
          have HLM : Aside0 (Below w.heap.size w wq ∧ LawM w.heap.size bt b7 tol wq) := ⟨below_step HX.out.2.2 HI2.out, _, _, X, s', u', A8, c8, E8, d8, HST.out, HX.out.1.1.below HI2.out, HX.out.1.2.below HI2.out, HX.out.2.1.below HI2.out, HC11.out.2.2.1,
            fun k hk => ⟨fun hr => by
              rcases hk with ⟨hk | hk, hl⟩
              · rcases hr with hr | hr
                · exact (HDJ.out.1 _ hk).1 hr.1
                · omega
              · rcases hr with hr | hr
                · omega
                · omega, by
              rcases hk with ⟨hk | hk, hl⟩
              · exact (HDJ.out.1 _ hk).2.1
              · have := HB7.out.2; omega, by
              rcases hk with ⟨hk | hk, hl⟩
              · exact (HDJ.out.1 _ hk).2.2.1
              · have := HB.out.2.2.2; omega, by
              rcases hk with ⟨hk | hk, hl⟩
              · exact (HDJ.out.1 _ hk).2.2.2
              · have := HB.out.2.2.1; omega⟩,
            fun k hk => by
              have h1 := HB7.out.2
              have h2 := HB.out.2.2.2
              have h3 := H10.out.1.size
              rcases hk with hk | hk
              · exact HDJ.out.2 _ hk.1
              · exact ⟨by omega, by omega⟩⟩
          go_wp2_with fail
          go_roundw
          case rel => exact ⟨i + 1, by go_num, by omega, HLM⟩
          case measure => simp [intOf]; omega
    · have hlti : ¬ (i : Int) < len := by omega
      have HB := Aside0.mk HI.out.1
      go_wp2_with ((with_reducible refine (HAL.out _).mono ?_); rintro e w' ⟨rfl, hb2⟩; have HB2 := Aside0.mk (below_step HB.out hb2); clear hb2)
      rw [HP.out]
      exact ⟨rfl, HB2.out⟩
end Go.Proofs.Ythkfahkkcjagdaa

/- A test in memory of its own: it is made, looked at, fed: the walks. Printed by gen_t6.py. -/
import Derived.Test.YthkfahkkcjagdaaMTa
import Derived.Test.YthkfahkkcjagdaaRc3
namespace Go.Proofs.Ythkfahkkcjagdaa
open Go.RowKit Go.Proofs.YthkfahkkcjagdaaW.PrintWords Go.Proofs.YthkfahkkcjagdaaW.PrintMore Go.Proofs.YthkfahkkcjagdaaW.PrintLast
set_option linter.unusedSimpArgs false
set_option linter.unusedVariables false

structure TO (w : World) (N : Nat) (ok : Nat → Prop) (bt : Nat) (xs : List Sb) (tol st : Int) (us : List Int) (vs vu : Value) : Prop where
  b : Blk w bt [.bool true, .int .i64 tol, .int .i64 st, vs, vu] 80
  s : kQ.R 55 w N ok vs xs
  u : RI w N ok vu us
  hb : N ≤ bt
  hu : st = 0 → vu = .slice none 0 0 ∧ us = []
theorem TO.kp {w w' : World} {N bt : Nat} {ok S : Nat → Prop} {xs : List Sb} {tol st : Int} {us : List Int} {vs vu : Value} (h : TO w N ok bt xs tol st us vs vu) (k : Kp S w w') (h1 : ¬ S bt) (h2 : ∀ j, ok j → ¬ S j) : TO w' N ok bt xs tol st us vs vu :=
  ⟨h.b.kp k h1, Kd.R_step h.s fun j hj hl => k.block j hl (h2 j hj), Kd.R_step h.u fun j hj hl => k.block j hl (h2 j hj), h.hb, h.hu⟩
theorem TO.below {w w' : World} {N bt : Nat} {ok : Nat → Prop} {xs : List Sb} {tol st : Int} {us : List Int} {vs vu : Value} (h : TO w N ok bt xs tol st us vs vu) (k : Below w.heap.size w w') : TO w' N ok bt xs tol st us vs vu :=
  ⟨h.b.below k, Kd.R_below h.s k, Kd.R_below h.u k, h.hb, h.hu⟩
theorem newT_any (w : World) (tol : Int) (h : 0 ≤ tol ∧ tol ≤ 10000) : Calls Try.prog 55 #[.int .i64 tol] w fun e w' => e = .returned (.tuple #[.pointer (some ⟨w.heap.size, 0, none⟩), .int .i64 0]) ∧ Below w.heap.size w w' ∧ ∀ ok, TO w' w.heap.size ok w.heap.size [] tol 0 [] (.slice none 0 0) (.slice none 0 0) := by
  obtain ⟨h1, h2⟩ := h
  have d1 : decide (tol < 0) = false := decide_eq_false (by omega)
  have d2 : decide (tol > 10000) = false := decide_eq_false (by omega)
  have HB := Aside0.mk (And.intro (below_alloc (Below.refl w.heap.size w) (.cells #[.bool true, .int .i64 tol, .int .i64 0, .slice none 0 0, .slice none 0 0] 80)) (Blk.new w [.bool true, .int .i64 tol, .int .i64 0, .slice none 0 0, .slice none 0 0] 80))
  go_enter Try.func55, Try.ntmps55
  go_wp2_with fail
  refine bodyPost_ret (v := .tuple #[.pointer (some ⟨w.heap.size, 0, none⟩), .int .i64 0]) (by simp [results, Try.results55, go_sem]) rfl ?_
  exact ⟨rfl, HB.out.1, fun ok => ⟨HB.out.2, Kd.R_nil _ _ _ _ _, Kd.R_nil _ _ _ _ _, Nat.le_refl _, fun _ => ⟨rfl, rfl⟩⟩⟩
theorem newB_any (w : World) (tol : Int) (h : tol < 0 ∨ 10000 < tol) : Calls Try.prog 55 #[.int .i64 tol] w fun e w' => e = .returned (.tuple #[.pointer none, .int .i64 2]) ∧ Below w.heap.size w w' := by
  by_cases h1 : tol < 0
  · have d1 : decide (tol < 0) = true := decide_eq_true h1
    clear h
    go_enter Try.func55, Try.ntmps55
    go_wp2_with fail
    refine bodyPost_ret (v := .tuple #[.pointer none, .int .i64 2]) (by simp [results, Try.results55, go_sem]) rfl ?_
    exact ⟨rfl, Below.refl _ _⟩
  · have d1 : decide (tol < 0) = false := decide_eq_false h1
    have d2 : decide (tol > 10000) = true := decide_eq_true (by omega)
    clear h
    go_enter Try.func55, Try.ntmps55
    go_wp2_with fail
    refine bodyPost_ret (v := .tuple #[.pointer none, .int .i64 2]) (by simp [results, Try.results55, go_sem]) rfl ?_
    exact ⟨rfl, Below.refl _ _⟩
theorem stateT_any {w : World} {N bt : Nat} {ok : Nat → Prop} {xs : List Sb} {tol st : Int} {us : List Int} {vs vu : Value} (h : TO w N ok bt xs tol st us vs vu) : Calls Try.prog 53 #[.pointer (some ⟨bt, 0, none⟩)] w fun e w' => e = .returned (.int .i64 st) ∧ w = w' := by
  have s0 := h.b.at_ (i := 0) rfl
  have s2 := h.b.at_ (i := 2) rfl
  clear h
  go_enter Try.func53, Try.ntmps53
  go_wp2_with fail
  go_ret
  exact ⟨rfl, rfl⟩
def needS (st : Int) (n : Nat) : Int := if st = 0 then 2 - (n % 2 : Nat) else 0
theorem needT_any {w : World} {N bt : Nat} {ok : Nat → Prop} {xs : List Sb} {tol st : Int} {us : List Int} {vs vu : Value} (h : TO w N ok bt xs tol st us vs vu) (hl : xs.length ≤ 8) : Calls Try.prog 54 #[.pointer (some ⟨bt, 0, none⟩)] w fun e w' => e = .returned (.int .i64 (needS st xs.length)) ∧ w = w' := by
  have s3 := h.b.at_ (i := 3) rfl
  have HST := Aside0.mk (stateT_any h)
  obtain ⟨A, c, e⟩ := Kd.R_slice h.s
  subst e
  by_cases hst : st = 0
  · have HN : Aside0 (needS st xs.length = 2 - (xs.length : Int) % 2) := ⟨by unfold needS; rw [if_pos hst]; omega⟩
    have d0 : (st != 0) = false := by simpa using hst
    obtain ⟨n, hn⟩ : ∃ z, z = xs.length := ⟨_, rfl⟩
    rw [← hn] at s3 hl HN ⊢
    clear h hst hn
    go_enter Try.func54, Try.ntmps54
    go_wp2_with ((with_reducible refine HST.out.mono ?_); rintro e w' ⟨rfl, rfl⟩)
    go_ret
    exact ⟨ret_int (by rw [HN.out]), rfl⟩
  · have HN : Aside0 (needS st xs.length = 0) := ⟨by unfold needS; rw [if_neg hst]⟩
    have d0 : (st != 0) = true := by simpa using hst
    clear h hst
    go_enter Try.func54, Try.ntmps54
    go_wp2_with ((with_reducible refine HST.out.mono ?_); rintro e w' ⟨rfl, rfl⟩)
    go_ret
    exact ⟨ret_int HN.out.symm, rfl⟩
end Go.Proofs.Ythkfahkkcjagdaa
namespace Go.Proofs.Ythkfahkkcjagdaa
open Go.RowKit Go.Proofs.YthkfahkkcjagdaaW.PrintWords Go.Proofs.YthkfahkkcjagdaaW.PrintMore Go.Proofs.YthkfahkkcjagdaaW.PrintLast
set_option linter.unusedSimpArgs false
set_option linter.unusedVariables false

theorem info55 : (Try.prog.info? 55).map (fun i => (i.zero, i.size, i.bytes)) = some (some (.agg #[.int .i64 0, .int .i64 0, .int .i64 0, .int .i64 0, .int .i64 0]), kQ.sz, 40) := by kernel_rfl
/-- The state behind a subsample, and the numbers that are used. -/
def fedSt (xs : List Sb) (tol : Int) : Int := if xs.length % 2 = 1 then 0 else if goodS xs tol then 1 else if xs.length = 8 then 2 else 0
def fedUs (xs : List Sb) (tol : Int) : List Int := if xs.length % 2 = 1 then [] else if goodS xs tol then usedS xs else []
theorem feedA_any {w : World} {N bt : Nat} {ok : Nat → Prop} {xs : List Sb} {tol st : Int} {us : List Int} {vs vu : Value} (h : TO w N ok bt xs tol st us vs vu) (hst : st ≠ 0) (s : Sb) :
    Calls Try.prog 50 #[.pointer (some ⟨bt, 0, none⟩), .agg #[.int .i64 s.raw, .int .i64 s.dry, .int .i64 s.ash, .int .i64 s.gre, .int .i64 s.veg]] w fun e w' => e = .returned (.int .i64 10) ∧ Below w.heap.size w w' := by
  have HB := Aside0.mk (below_alloc (Below.refl w.heap.size w) (.cells #[.int .i64 s.raw, .int .i64 s.dry, .int .i64 s.ash, .int .i64 s.gre, .int .i64 s.veg] 55))
  have s0 := (h.b.below HB.out).at_ (i := 0) rfl
  have s2 := (h.b.below HB.out).at_ (i := 2) rfl
  have d0 : (st != 0) = true := by simpa using hst
  clear h hst
  go_enter Try.func50, Try.ntmps50
  go_wp2_with fail
  go_ret
  exact ⟨rfl, HB.out⟩
theorem feedB_any {w : World} {N bt : Nat} {ok : Nat → Prop} {xs : List Sb} {tol : Int} {us : List Int} {vs vu : Value} (h : TO w N ok bt xs tol 0 us vs vu) {s : Sb} (hs : ¬ SbOK s) :
    Calls Try.prog 50 #[.pointer (some ⟨bt, 0, none⟩), .agg #[.int .i64 s.raw, .int .i64 s.dry, .int .i64 s.ash, .int .i64 s.gre, .int .i64 s.veg]] w fun e w' => e = .returned (.int .i64 2) ∧ Below w.heap.size w w' := by
  have HB := Aside0.mk (below_alloc (Below.refl w.heap.size w) (.cells #[.int .i64 s.raw, .int .i64 s.dry, .int .i64 s.ash, .int .i64 s.gre, .int .i64 s.veg] 55))
  have s0 := (h.b.below HB.out).at_ (i := 0) rfl
  have s2 := (h.b.below HB.out).at_ (i := 2) rfl
  have q := Blk.new w [.int .i64 s.raw, .int .i64 s.dry, .int .i64 s.ash, .int .i64 s.gre, .int .i64 s.veg] 55
  have c0 := q.at_ (i := 0) rfl
  have c1 := q.at_ (i := 1) rfl
  have c2 := q.at_ (i := 2) rfl
  have c3 := q.at_ (i := 3) rfl
  have c4 := q.at_ (i := 4) rfl
  have HSU := Aside0.mk (fun W => sub_any W s)
  rw [sbB_no hs] at HSU
  clear h hs q
  go_enter Try.func50, Try.ntmps50
  go_wp2_with ((with_reducible refine (HSU.out _).mono ?_); rintro e5 w5 ⟨rfl, hb5⟩; have HB5 := Aside0.mk (below_step HB.out hb5); clear hb5)
  go_ret
  exact ⟨rfl, HB5.out⟩
def FeedPost (w : World) (N : Nat) (ok : Nat → Prop) (bt : Nat) (xs : List Sb) (tol : Int) (e : Ending) (w' : World) : Prop :=
  e = .returned (.int .i64 0) ∧ Kp (fun k => k = bt ∨ ok k) w w' ∧ ∃ vs vu, TO w' N ok bt xs tol (fedSt xs tol) (fedUs xs tol) vs vu
set_option maxHeartbeats 8000000 in
set_option maxRecDepth 100000 in
theorem feedC_any {w : World} {N bt : Nat} {ok : Nat → Prop} {xs : List Sb} {tol : Int} {us : List Int} {vs vu : Value} (h : TO w N ok bt xs tol 0 us vs vu) {s : Sb} (hs : SbOK s) (hok : ∀ s ∈ xs, SbOK s) (hl : xs.length < 8) (ht : 0 ≤ tol ∧ tol ≤ 10000) (hf : ∀ k, w.heap.size ≤ k → ok k) (hnb : ¬ ok bt) :
    Calls Try.prog 50 #[.pointer (some ⟨bt, 0, none⟩), .agg #[.int .i64 s.raw, .int .i64 s.dry, .int .i64 s.ash, .int .i64 s.gre, .int .i64 s.veg]] w (FeedPost w N ok bt (xs ++ [s]) tol) := by
  have HSU := Aside0.mk (fun W => sub_any W s)
  rw [sbB_yes hs] at HSU
  obtain ⟨hvu, hus⟩ := h.hu rfl
  subst hvu hus
  obtain ⟨sr, sd, sa, sg, sv⟩ := s
  dsimp only at HSU ⊢
  have b1 := below_alloc (Below.refl w.heap.size w) (.cells #[.int .i64 sr, .int .i64 sd, .int .i64 sa, .int .i64 sg, .int .i64 sv] 55)
  have q := Blk.new w [.int .i64 sr, .int .i64 sd, .int .i64 sa, .int .i64 sg, .int .i64 sv] 55
  have s0 := (h.b.below b1).at_ (i := 0) rfl
  have s2 := (h.b.below b1).at_ (i := 2) rfl
  have c0 := q.at_ (i := 0) rfl
  have c1 := q.at_ (i := 1) rfl
  have c2 := q.at_ (i := 2) rfl
  have c3 := q.at_ (i := 3) rfl
  have c4 := q.at_ (i := 4) rfl
  obtain ⟨inner, hown⟩ := Kd.R_own h.s
  have HSN : Aside0 (some w.heap.size ≠ vs.ownBlock) := ⟨fun e => by have := own_lt hown _ e.symm; omega⟩
  have H := Aside0.mk (And.intro b1 (And.intro q h))
  have HF := Aside0.mk hf
  have HNB := Aside0.mk hnb
  have HXS := Aside0.mk (And.intro hs (And.intro hok (And.intro ht h.hb)))
  obtain ⟨A, c, ev⟩ := Kd.R_slice h.s
  have HEV := Aside0.mk ev
  have HNS0 : Aside0 (N ≤ w.heap.size) := ⟨Nat.le_trans h.hb (Nat.le_of_lt h.b.lt)⟩
  clear h b1 q hs hok ht hf hnb hown ev
  obtain ⟨X, hX⟩ : ∃ z, z = xs ++ [(⟨sr, sd, sa, sg, sv⟩ : Sb)] := ⟨_, rfl⟩
  rw [← hX]
  have HX := Aside0.mk hX
  clear hX
  go_enter Try.func50, Try.ntmps50
  go_upto_region 7 with ((with_reducible refine (HSU.out _).mono ?_); rintro e5 w5 ⟨rfl, hb5⟩; have H5 := Aside0.mk (And.intro (below_step H.out.1 hb5) (H.out.2.1.below hb5)); clear hb5)
  obtain ⟨bs, hbs⟩ : ∃ z, z = w.heap.size := ⟨_, rfl⟩
  have HD := Aside0.mk ((H.out.2.2.below H5.out.1).below (below_drew (Below.refl w5.heap.size w5)))
  have HDB := Aside0.mk (H5.out.2.below (below_drew (Below.refl w5.heap.size w5)))
  have HBN : Aside0 (Below N w w5.drew) := ⟨(below_drew H5.out.1).mono HNS0.out⟩
  have HNS : Aside0 (N ≤ w5.drew.heap.size) := ⟨Nat.le_trans HNS0.out H5.out.1.size⟩
  rw [← hbs] at HDB HSN ⊢
  have HBS := Aside0.mk hbs
  clear s0 s2 c0 c1 c2 c3 c4 hbs
  refine start_ (n := 11) (S := (fun W => W.cell? ⟨bt, 3, none⟩ = some vs ∧ W.cell? ⟨bs, 0, none⟩ = some (.int .i64 sr) ∧ W.cell? ⟨bs, 1, none⟩ = some (.int .i64 sd) ∧ W.cell? ⟨bs, 2, none⟩ = some (.int .i64 sa) ∧ W.cell? ⟨bs, 3, none⟩ = some (.int .i64 sg) ∧ W.cell? ⟨bs, 4, none⟩ = some (.int .i64 sv))) (ds := [10]) #[false, false, false, false, false, false, false, false, false, false, false] (by kernel_rfl) rfl rfl (⟨(HD.out.b).at_ (i := 3) rfl, (HDB.out).at_ (i := 0) rfl, (HDB.out).at_ (i := 1) rfl, (HDB.out).at_ (i := 2) rfl, (HDB.out).at_ (i := 3) rfl, (HDB.out).at_ (i := 4) rfl⟩) (fun hHeld => ?_)
  refine pure_ (i := 0) (N := some 25) (v := ?_) (a' := ?_) #[true, false, false, false, false, false, false, false, false, false, false] rfl rfl (by kernel_rfl) (fun _ _ _ h => h) (Or.inl ⟨by rfl, ?_⟩) ?_ ?_
  rotate_left
  · intro w'
    go_simp
    with_reducible rfl
  rotate_left
  · simp only [Act.put, List.setIfInBounds_toArray, List.set_cons_zero, List.set_cons_succ, i64_w, i32_w]
    rfl
  refine pure_ (i := 1) (N := some 26) (v := ?_) (a' := ?_) #[true, true, false, false, false, false, false, false, false, false, false] rfl rfl (by kernel_rfl) (fun _ _ _ h => h) (Or.inl ⟨by rfl, ?_⟩) ?_ ?_
  rotate_left
  · intro w'
    go_simp
    with_reducible rfl
  rotate_left
  · simp only [Act.put, List.setIfInBounds_toArray, List.set_cons_zero, List.set_cons_succ, i64_w, i32_w]
    rfl
  refine pure_ (i := 2) (N := some 27) (v := ?_) (a' := ?_) #[true, true, true, false, false, false, false, false, false, false, false] rfl rfl (by kernel_rfl) (fun _ _ _ h => h) (Or.inl ⟨by rfl, ?_⟩) ?_ ?_
  rotate_left
  · intro w'
    go_simp
    with_reducible rfl
  rotate_left
  · simp only [Act.put, List.setIfInBounds_toArray, List.set_cons_zero, List.set_cons_succ, i64_w, i32_w]
    rfl
  refine pure_ (i := 3) (N := some 28) (v := ?_) (a' := ?_) #[true, true, true, true, false, false, false, false, false, false, false] rfl rfl (by kernel_rfl) (fun _ _ _ h => h) (Or.inl ⟨by rfl, ?_⟩) ?_ ?_
  rotate_left
  · intro w'
    go_simp
    with_reducible rfl
  rotate_left
  · simp only [Act.put, List.setIfInBounds_toArray, List.set_cons_zero, List.set_cons_succ, i64_w, i32_w]
    rfl
  refine take_ (i := 4) (N := some 29) (v := ?_) (a' := ?_) #[true, true, true, true, true, false, false, false, false, false, false] rfl rfl (by kernel_rfl) (fun _ _ _ h => h) (Or.inl ⟨by rfl, ?_⟩) hHeld ?_ ?_
  rotate_left
  · rintro w' ⟨s0, s1, s2, s3, s4, s5⟩
    go_simp
    with_reducible rfl
  rotate_left
  · simp only [Act.put, List.setIfInBounds_toArray, List.set_cons_zero, List.set_cons_succ, i64_w, i32_w]
    rfl
  refine take_ (i := 5) (N := some 30) (v := ?_) (a' := ?_) #[true, true, true, true, true, true, false, false, false, false, false] rfl rfl (by kernel_rfl) (fun _ _ _ h => h) (Or.inl ⟨by rfl, ?_⟩) hHeld ?_ ?_
  rotate_left
  · rintro w' ⟨s0, s1, s2, s3, s4, s5⟩
    go_simp
    with_reducible rfl
  rotate_left
  · simp only [Act.put, List.setIfInBounds_toArray, List.set_cons_zero, List.set_cons_succ, i64_w, i32_w]
    rfl
  refine one_ (i := 6) (N := some 31) #[true, true, true, true, true, true, true, false, false, false, false] rfl rfl (by kernel_rfl) (by decide) (fun K hK => ?_)
  refine build_ (v := .slice (some ⟨w5.drew.heap.size, 0, none⟩) 1 1) (w1 := w5.drew.alloc (.cells #[.int .i64 sr, .int .i64 sd, .int .i64 sa, .int .i64 sg, .int .i64 sv] 55)) (by rfl) rfl ?_ ?_
  · go_simp
    first | done | exact ⟨rfl, rfl⟩ | rfl
  refine hK.out _ _ (⟨(HD.out.b.alloc _).at_ (i := 3) rfl, (HDB.out.alloc _).at_ (i := 0) rfl, (HDB.out.alloc _).at_ (i := 1) rfl, (HDB.out.alloc _).at_ (i := 2) rfl, (HDB.out.alloc _).at_ (i := 3) rfl, (HDB.out.alloc _).at_ (i := 4) rfl⟩) (fun hHeld => ?_)
  clear hK K
  refine norm_ (a' := ?_) ?_ ?_
  rotate_left
  · show Act.put _ (some 31) _ = _
    simp only [Act.put, List.setIfInBounds_toArray, List.set_cons_zero, List.set_cons_succ, i64_w, i32_w]
    rfl
  refine one_ (i := 7) (N := some 32) #[true, true, true, true, true, true, true, true, false, false, false] rfl rfl (by kernel_rfl) (by decide) (fun K hK => ?_)
  refine Kd.R_append_step kQ (w0 := w) N (by rfl) (.tmp 29) (.tmp 31) 78 55 (.agg #[.int .i64 0, .int .i64 0, .int .i64 0, .int .i64 0, .int .i64 0]) 40 (by rfl) Try.underlying78 info55 rfl (by decide) (by decide) vs xs ⟨sr, sd, sa, sg, sv⟩ [.int .i64 sr, .int .i64 sd, .int .i64 sa, .int .i64 sg, .int .i64 sv] ok (fun _ => False) (by rfl) (by rfl) rfl (fun _ hk => hk.elim) (fun k hk => HF.out k (Nat.le_trans H5.out.1.size hk)) HD.out.s HBN.out HNS.out (by omega) ?_
  intro v6 w6 ho hb hg hat
  obtain ⟨A6, c6, hv6⟩ := Kd.R_slice ho
  rw [List.length_append, List.length_singleton] at hv6
  subst hv6
  have hb6 : Blk w6 bt [.bool true, .int .i64 tol, .int .i64 0, vs, .slice none 0 0] 80 := (hg.block bt HD.out.b.lt (Kd.R_ne HD.out.s HD.out.b (by decide))).trans HD.out.b
  have hs6 : Blk w6 bs [.int .i64 sr, .int .i64 sd, .int .i64 sa, .int .i64 sg, .int .i64 sv] 55 := (hg.block bs HDB.out.lt (HSN.out)).trans HDB.out
  have H6 := Aside0.mk (And.intro ho (And.intro hg (And.intro hb6 hs6)))
  clear ho hb hg hat hb6 hs6
  refine hK.out _ _ (⟨((show Blk w6 bt _ 80 from H6.out.2.2.1)).at_ (i := 3) rfl, ((show Blk w6 bs _ 55 from H6.out.2.2.2)).at_ (i := 0) rfl, ((show Blk w6 bs _ 55 from H6.out.2.2.2)).at_ (i := 1) rfl, ((show Blk w6 bs _ 55 from H6.out.2.2.2)).at_ (i := 2) rfl, ((show Blk w6 bs _ 55 from H6.out.2.2.2)).at_ (i := 3) rfl, ((show Blk w6 bs _ 55 from H6.out.2.2.2)).at_ (i := 4) rfl⟩) (fun hHeld => ?_)
  clear hK K
  refine norm_ (a' := ?_) ?_ ?_
  rotate_left
  · show Act.put _ (some 32) _ = _
    simp only [Act.put, List.setIfInBounds_toArray, List.set_cons_zero, List.set_cons_succ, i64_w, i32_w]
    rfl
  refine pure_ (i := 8) (N := some 33) (v := ?_) (a' := ?_) #[true, true, true, true, true, true, true, true, true, false, false] rfl rfl (by kernel_rfl) (fun _ _ _ h => h) (Or.inl ⟨by rfl, ?_⟩) ?_ ?_
  rotate_left
  · intro w'
    go_simp
    with_reducible rfl
  rotate_left
  · simp only [Act.put, List.setIfInBounds_toArray, List.set_cons_zero, List.set_cons_succ, i64_w, i32_w]
    rfl
  refine pure_ (i := 9) (N := some 34) (v := ?_) (a' := ?_) #[true, true, true, true, true, true, true, true, true, true, false] rfl rfl (by kernel_rfl) (fun _ _ _ h => h) (Or.inl ⟨by rfl, ?_⟩) ?_ ?_
  rotate_left
  · intro w'
    go_simp
    with_reducible rfl
  rotate_left
  · simp only [Act.put, List.setIfInBounds_toArray, List.set_cons_zero, List.set_cons_succ, i64_w, i32_w]
    rfl
  refine last_ (i := 10) (N := none) #[true, true, true, true, true, true, true, true, true, true, true] rfl rfl (by kernel_rfl) (by decide) (fun K hK => ?_)
  have hx6 : Blk w6 bt _ 80 := H6.out.2.2.1
  have cb4 := hx6.at_ (i := 3) rfl
  have fb4 := hx6.free 3
  clear hx6
  refine skip_ (w1 := ?_) (by rfl) rfl ?_ ?_
  rotate_left
  · go_simp
    rfl
  refine hK.out _ _ ?_
  clear hK K
  refine done_ (by kernel_rfl) ?_
  clear hHeld cb4 fb4
  have hb7 := H6.out.2.2.1.set 3 (.slice A6 (xs.length + 1) c6)
  have hs7 := Kd.R_set H6.out.1 H6.out.2.2.1 (by intro q h; simp [kQ] at h; omega) 3 (.slice A6 (xs.length + 1) c6)
  have hk7 : Kp (fun k => k = bt ∨ ok k) w (w6.setCell ⟨bt, 3, none⟩ (.slice A6 (xs.length + 1) c6)) :=
    ((Kp.of_below (S := fun k => k = bt ∨ ok k) (below_drew H5.out.1)).grown H6.out.2.1 (T := fun k => k = bt ∨ ok k) (fun j hj => .inr (HD.out.s.1 j hj)) (fun j hj => hj)).setCell (fun _ => .inl rfl) _
  have hz7 : w.heap.size ≤ (w6.setCell ⟨bt, 3, none⟩ (.slice A6 (xs.length + 1) c6)).heap.size := hk7.size
  generalize w6.setCell ⟨bt, 3, none⟩ (.slice A6 (xs.length + 1) c6) = w7 at hb7 hs7 hk7 hz7 ⊢
  have t3 : w7.cell? ⟨bt, 3, none⟩ = some (.slice A6 (xs.length + 1) c6) := hb7.at_ (i := 3) rfl
  have HT7 : Aside0 (TO w7 N ok bt (xs ++ [⟨sr, sd, sa, sg, sv⟩]) tol 0 [] (.slice A6 (xs.length + 1) c6) (.slice none 0 0)) := ⟨hb7, hs7, Kd.R_nil _ _ _ _ _, HXS.out.2.2.2, fun _ => ⟨rfl, rfl⟩⟩
  have HK7 := Aside0.mk (And.intro hk7 hz7)
  have hX := HX.out
  have hXl : X.length = xs.length + 1 := by rw [hX, List.length_append]; rfl
  have HXO : Aside0 (∀ s ∈ X, SbOK s) := ⟨by
    rw [hX]
    intro y hy
    rcases List.mem_append.1 hy with h | h
    · exact HXS.out.2.1 y h
    · rw [List.mem_singleton.1 h]; exact HXS.out.1⟩
  rw [← hX] at HT7
  have hx8 : X.length ≤ 8 := by omega
  have hx1 : 1 ≤ X.length := by omega
  have t3' : w7.cell? ⟨bt, 3, none⟩ = some (.slice A6 X.length c6) := by rw [hXl]; exact t3
  have HT8 : Aside0 (TO w7 N ok bt X tol 0 [] (.slice A6 X.length c6) (.slice none 0 0)) := ⟨by rw [hXl]; exact HT7.out⟩
  obtain ⟨n, hn⟩ : ∃ z, z = X.length := ⟨_, rfl⟩
  rw [← hn] at t3' hx8 hx1
  have HN := Aside0.mk hn
  clear hb7 hs7 hk7 hz7 t3 HT7 hX hXl hn hl
  by_cases hpar : n % 2 = 1
  · have p1 : ((n : Int) % 2 == 0) = false := by simp; omega
    have p2 : (Int.tmod (n : Int) 2 == 0) = false := by rw [Int.tmod_eq_emod_of_nonneg (by omega)]; exact p1
    have HP := Aside0.mk hpar
    clear hpar
    go_wp2_with fail
    go_ret
    exact ⟨rfl, HK7.out.1, _, _, by unfold fedSt fedUs; rw [← HN.out, if_pos HP.out, if_pos HP.out]; exact HT8.out⟩
  · have p1 : ((n : Int) % 2 == 0) = true := by simp; omega
    have p2 : (Int.tmod (n : Int) 2 == 0) = true := by rw [Int.tmod_eq_emod_of_nonneg (by omega)]; exact p1
    have HTR : TR w7 bt A6 c6 X tol 0 (.slice none 0 0) := by
      obtain ⟨A7, c7, e7, _, hc⟩ := Kd.R_reads HT8.out.s
      cases e7
      exact ⟨HT8.out.b, hc⟩
    have HDE := Aside0.mk (decide_any w7 n (n / 2) HN.out.symm (by omega) (by omega) (by omega) HTR HXO.out HXS.out.2.2.1)
    have HP := Aside0.mk hpar
    clear hpar HTR
    go_upto_region 10 with ((with_reducible refine HDE.out.mono ?_); intro e8 w8 h8; obtain ⟨rfl, hk8, st', vu', hb8, hp8⟩ := h8; have H8 := Aside0.mk (And.intro hk8 (And.intro hb8 hp8)); clear hk8 hb8 hp8)
    go_wp2_with fail
    go_ret
    have hs8 : kQ.R 55 w8 N ok (.slice A6 X.length c6) X := Kd.R_step HT8.out.s fun j hj hl => H8.out.1.block j hl (fun e => HNB.out (by rw [← e]; exact hj))
    refine ⟨rfl, HK7.out.1.step (H8.out.1.mono fun _ h => .inl h), .slice A6 X.length c6, vu', ?_⟩
    rcases H8.out.2.2 with ⟨hg, hst, hr⟩ | ⟨hg, hst, hvv⟩
    · have e1 : fedSt X tol = 1 := by unfold fedSt; rw [← HN.out, if_neg HP.out, if_pos hg]
      have e2 : fedUs X tol = usedS X := by unfold fedUs; rw [← HN.out, if_neg HP.out, if_pos hg]
      rw [e1, e2, ← hst]
      have ho := RI_own hr
      exact ⟨H8.out.2.1, hs8, RI_of (own_lower ho (Nat.le_trans HNS0.out HK7.out.2)) (fun k hk => HF.out k (Nat.le_trans HK7.out.2 (Go.Proofs.YthkfahkkcjagdaaW.PrintWords.own_base ho k hk))), HXS.out.2.2.2, fun h0 => by omega⟩
    · have e1 : fedSt X tol = st' := by unfold fedSt; rw [← HN.out, if_neg HP.out, if_neg hg, hst, ← HN.out]
      have e2 : fedUs X tol = [] := by unfold fedUs; rw [← HN.out, if_neg HP.out, if_neg hg]
      rw [e1, e2]
      refine ⟨H8.out.2.1, hs8, ?_, HXS.out.2.2.2, fun _ => ⟨hvv, rfl⟩⟩
      rw [hvv]
      exact Kd.R_nil _ _ _ _ _
end Go.Proofs.Ythkfahkkcjagdaa
namespace Go.Proofs.Ythkfahkkcjagdaa
open Go.RowKit Go.Proofs.YthkfahkkcjagdaaW.PrintWords Go.Proofs.YthkfahkkcjagdaaW.PrintMore Go.Proofs.YthkfahkkcjagdaaW.PrintLast
set_option linter.unusedSimpArgs false
set_option linter.unusedVariables false

def sumU (f : Sb → Int) (xs : List Sb) (us : List Int) : Int := (us.map fun i => f (rdQ xs i.toNat)).sum
theorem sumU_snoc (f : Sb → Int) (xs : List Sb) (us : List Int) {i : Nat} (hi : i < us.length) : sumU f xs (us.take (i + 1)) = sumU f xs (us.take i) + f (rdQ xs (us.getD i 0).toNat) := by
  unfold sumU
  rw [List.take_succ_eq_append_getElem hi, List.map_append, List.sum_append, List.getD_eq_getElem?_getD, List.getElem?_eq_getElem hi]
  simp
theorem sumU_bd (f : Sb → Int) (xs : List Sb) (hf : ∀ i, 0 ≤ f (rdQ xs i) ∧ f (rdQ xs i) ≤ 10000) : ∀ us : List Int, 0 ≤ sumU f xs us ∧ sumU f xs us ≤ 10000 * us.length
  | [] => by simp [sumU]
  | u :: us => by
    have h1 := sumU_bd f xs hf us
    have h2 := hf u.toNat
    have e : sumU f xs (u :: us) = f (rdQ xs u.toNat) + sumU f xs us := by simp [sumU]
    rw [e, List.length_cons]
    omega
theorem TO.kpT {w w' : World} {N bt g : Nat} {ok : Nat → Prop} {xs : List Sb} {tol st : Int} {us : List Int} {vs vu : Value} {cs : List Value} (h : TO w N ok bt xs tol st us vs vu) (k : Kp (fun j => j = g) w w') (hb : Blk w g cs 83) : TO w' N ok bt xs tol st us vs vu :=
  ⟨h.b.kp k (h.b.ne_of_type hb (by decide)), Kd.R_mono (Kd.R_step (Kd.R_types h.s hb (by intro q hq; simp [kQ] at hq; omega)) fun j hj hl => k.block j hl hj.2) (fun _ hj => hj.1), Kd.R_mono (Kd.R_step (Kd.R_types h.u hb (by intro q hq; simp [Kd.int, Kd.scalar] at hq; omega)) fun j hj hl => k.block j hl hj.2) (fun _ hj => hj.1), h.hb, h.hu⟩
theorem RI.kpT {w w' : World} {N g : Nat} {ok : Nat → Prop} {v : Value} {us : List Int} {cs : List Value} (h : RI w N ok v us) (k : Kp (fun j => j = g) w w') (hb : Blk w g cs 83) : RI w' N ok v us :=
  Kd.R_mono (Kd.R_step (Kd.R_types h hb (by intro q hq; simp [Kd.int, Kd.scalar] at hq; omega)) fun j hj hl => k.block j hl hj.2) (fun _ hj => hj.1)
theorem resA_any {w : World} {N bt : Nat} {ok : Nat → Prop} {xs : List Sb} {tol st : Int} {us : List Int} {vs vu : Value} (h : TO w N ok bt xs tol st us vs vu) (hst : st ≠ 1) :
    Calls Try.prog 51 #[.pointer (some ⟨bt, 0, none⟩)] w fun e w' => e = .returned (.tuple #[.agg #[.int .i64 0, .int .i64 0, .int .i64 0, .slice none 0 0], .int .i64 10]) ∧ Below w.heap.size w w' := by
  have HB := Aside0.mk (below_alloc (Below.refl w.heap.size w) (.cells #[.int .i64 0, .int .i64 0, .int .i64 0, .slice none 0 0] 83))
  have s0 := (h.b.below HB.out).at_ (i := 0) rfl
  have s2 := (h.b.below HB.out).at_ (i := 2) rfl
  have d0 : (st != 1) = true := by simpa using hst
  clear h hst
  go_enter Try.func51, Try.ntmps51
  go_wp2_with fail
  exact bodyPost_ret (v := .tuple #[.agg #[.int .i64 0, .int .i64 0, .int .i64 0, .slice none 0 0], .int .i64 10]) (by simp [results, Try.results51, go_sem]) rfl ⟨rfl, HB.out⟩
/-- A copy of the numbers that are used. -/
theorem cloneR_any {w : World} {g c n : Nat} {us : List Int} (h : (Kd.int .i64).C w (some ⟨g, 0, none⟩) n us) (hl : n ≤ 1000) :
    Calls Try.prog 92 #[.slice (some ⟨g, 0, none⟩) n c] w fun e w' => ∃ g' cap, e = .returned (.slice (some ⟨g', 0, none⟩) n cap) ∧ w'.ownsRow w.heap.size 3 1 (.slice (some ⟨g', 0, none⟩) n cap) n (ints us) ∧ Below w.heap.size w w' := by
  have hn := Kd.C_len h
  refine (Try.slices_Clone_int g 0 n c us w (by omega) (by omega) (fun j hj => ?_)).mono ?_
  · obtain ⟨ad, e, hc⟩ := Kd.at_int h (j : Int) (by omega) (by omega)
    cases e
    rw [Int.toNat_natCast] at hc
    rw [add_plain] at hc
    rw [Nat.zero_add]
    simpa [rd] using hc
  · rintro e w' ⟨v', rfl, h2, h3, h4⟩
    rw [List.take_of_length_le (by omega)] at h2
    rcases h2.2 with ⟨e1, _⟩ | ⟨g', cap, cur, rfl, _⟩
    · exact absurd e1 h3
    · exact ⟨g', cap, rfl, h2, h4⟩
def ResPost (w : World) (xs : List Sb) (us : List Int) (e : Ending) (w' : World) : Prop :=
  Below w.heap.size w w' ∧ ∃ g cap : Nat, e = .returned (.tuple #[.agg #[.int .i64 (sumU woolS xs us), .int .i64 (sumU Sb.veg xs us), .int .i64 (sumU Sb.raw xs us), .slice (some ⟨g, 0, none⟩) us.length cap], .int .i64 0]) ∧ RI w' w.heap.size (fun _ => True) (.slice (some ⟨g, 0, none⟩) us.length cap) us
set_option maxHeartbeats 8000000 in
set_option maxRecDepth 100000 in
theorem resC_any {w : World} {N bt : Nat} {ok : Nat → Prop} {xs : List Sb} {tol : Int} {us : List Int} {vs vu : Value} (h : TO w N ok bt xs tol 1 us vs vu) (hok : ∀ s ∈ xs, SbOK s) (hus : ∀ u ∈ us, 0 ≤ u ∧ u < xs.length) (h0 : 0 < us.length) (hl : us.length ≤ 8) :
    Calls Try.prog 51 #[.pointer (some ⟨bt, 0, none⟩)] w (ResPost w xs us) := by
  obtain ⟨A, c, ev⟩ := Kd.R_slice h.s
  obtain ⟨gu, cu, evu⟩ : ∃ gu cu, vu = .slice (some ⟨gu, 0, none⟩) us.length cu := by
    rcases (RI_own h.u).2 with ⟨_, e⟩ | ⟨g, cap, cur, e, _⟩
    · omega
    · exact ⟨g, cap, e⟩
  subst ev evu
  obtain ⟨ad, rfl⟩ : ∃ ad, A = some ad := by
    obtain ⟨A7, c7, e7, _, hc⟩ := Kd.R_reads h.s
    cases e7
    have hx : 0 < xs.length := by
      have := hus (us.getD 0 0) (by rw [List.getD_eq_getElem?_getD, List.getElem?_eq_getElem h0]; exact List.getElem_mem _)
      omega
    obtain ⟨ad, e, _⟩ := at_Q hc 0 hx
    exact ⟨ad, e⟩
  have HFW := Aside0.mk (fun i => woolS_bd (rdQ_ok hok i))
  have HFV := Aside0.mk (fun i => (show 0 ≤ Sb.veg (rdQ xs i) ∧ Sb.veg (rdQ xs i) ≤ 10000 from ⟨(rdQ_ok hok i).v1, by have := (rdQ_ok hok i).v2; have := (rdQ_ok hok i).d2; have := (rdQ_ok hok i).r2; omega⟩))
  have HFR := Aside0.mk (fun i => (show 0 ≤ Sb.raw (rdQ xs i) ∧ Sb.raw (rdQ xs i) ≤ 10000 from ⟨by have := (rdQ_ok hok i).r1; omega, (rdQ_ok hok i).r2⟩))
  have HOK := Aside0.mk (And.intro hok hus)
  have HPOST : Aside0 (∀ w' g cap, Below w.heap.size w w' → RI w' w.heap.size (fun _ => True) (.slice (some ⟨g, 0, none⟩) us.length cap) us → ResPost w xs us (.returned (.tuple #[.agg #[.int .i64 (sumU woolS xs us), .int .i64 (sumU Sb.veg xs us), .int .i64 (sumU Sb.raw xs us), .slice (some ⟨g, 0, none⟩) us.length cap], .int .i64 0])) w') := ⟨fun w' g cap h1 h2 => ⟨h1, g, cap, rfl, h2⟩⟩
  obtain ⟨n, hn⟩ : ∃ z, z = xs.length := ⟨_, rfl⟩
  obtain ⟨m, hm⟩ : ∃ z, z = us.length := ⟨_, rfl⟩
  have HNM := Aside0.mk (And.intro hn hm)
  obtain ⟨P, hP⟩ : ∃ P, P = ResPost w xs us := ⟨_, rfl⟩
  rw [← hP] at HPOST ⊢
  rw [← hm] at HPOST h0 hl
  clear hP
  have b1 := below_alloc (Below.refl w.heap.size w) (.cells #[.int .i64 0, .int .i64 0, .int .i64 0, .slice none 0 0] 83)
  have q1 := Blk.new w [.int .i64 0, .int .i64 0, .int .i64 0, .slice none 0 0] 83
  have H1 := Aside0.mk (And.intro b1 (And.intro q1 (h.below b1)))
  have s0 := H1.out.2.2.b.at_ (i := 0) rfl
  have s2 := H1.out.2.2.b.at_ (i := 2) rfl
  have s4 := H1.out.2.2.b.at_ (i := 4) rfl
  rw [← hm] at s4
  have HCL : Aside0 (∀ W, TO W N ok bt xs tol 1 us (.slice (some ad) xs.length c) (.slice (some ⟨gu, 0, none⟩) us.length cu) → Calls Try.prog 92 #[.slice (some ⟨gu, 0, none⟩) m cu] W fun e w' => ∃ g' cap, e = .returned (.slice (some ⟨g', 0, none⟩) m cap) ∧ w'.ownsRow W.heap.size 3 1 (.slice (some ⟨g', 0, none⟩) m cap) m (ints us) ∧ Below W.heap.size W w') := ⟨fun W hW => by
    obtain ⟨A7, c7, e7, _, hc⟩ := Kd.R_reads hW.u
    cases e7
    have := cloneR_any (c := cu) hc (by omega)
    rwa [← hm] at this⟩
  clear h hok hus hn hm b1 q1
  go_enter Try.func51, Try.ntmps51
  go_upto_region 6 with ((with_reducible refine (HCL.out _ H1.out.2.2).mono ?_); rintro e5 w5 ⟨g5, cap5, rfl, ho5, hb5⟩; have H5 := Aside0.mk (And.intro ho5 (below_step H1.out.1 hb5)); have HT5 := Aside0.mk (And.intro (H1.out.2.2.below hb5) (And.intro (H1.out.2.1.below hb5) (Nat.le_trans H1.out.1.size (Nat.le_refl _)))); clear ho5 hb5)
  clear s0 s2 s4
  obtain ⟨br, hbr⟩ : ∃ z, z = w5.heap.size := ⟨_, rfl⟩
  obtain ⟨b2, hb2⟩ : ∃ z, z = w.heap.size := ⟨_, rfl⟩
  have hx6 := below_alloc (Below.refl w5.heap.size w5) (.cells #[.int .i64 0, .int .i64 0, .int .i64 0, .slice (some ⟨g5, 0, none⟩) m cap5] 83)
  have H6 : Aside0 (TO (w5.alloc (.cells #[.int .i64 0, .int .i64 0, .int .i64 0, .slice (some ⟨g5, 0, none⟩) m cap5] 83)) N ok bt xs tol 1 us (.slice (some ad) xs.length c) (.slice (some ⟨gu, 0, none⟩) us.length cu) ∧ Blk (w5.alloc (.cells #[.int .i64 0, .int .i64 0, .int .i64 0, .slice (some ⟨g5, 0, none⟩) m cap5] 83)) br [.int .i64 0, .int .i64 0, .int .i64 0, .slice (some ⟨g5, 0, none⟩) m cap5] 83 ∧ Blk (w5.alloc (.cells #[.int .i64 0, .int .i64 0, .int .i64 0, .slice (some ⟨g5, 0, none⟩) m cap5] 83)) b2 [.int .i64 0, .int .i64 0, .int .i64 0, .slice none 0 0] 83 ∧ (w5.alloc (.cells #[.int .i64 0, .int .i64 0, .int .i64 0, .slice (some ⟨g5, 0, none⟩) m cap5] 83)).ownsRow w.heap.size 3 1 (.slice (some ⟨g5, 0, none⟩) m cap5) m (ints us) ∧ Below w.heap.size w (w5.alloc (.cells #[.int .i64 0, .int .i64 0, .int .i64 0, .slice (some ⟨g5, 0, none⟩) m cap5] 83))) :=
    ⟨HT5.out.1.below hx6, by rw [hbr]; exact Blk.new w5 _ 83, by rw [hb2]; exact HT5.out.2.1.below hx6, pw_own_below (own_lower H5.out.1 (by simp)) hx6, below_step H5.out.2 hx6⟩
  have HBR : Aside0 (w.heap.size < br ∧ b2 = w.heap.size) := ⟨by rw [hbr]; have := HT5.out.2.1.lt; omega, hb2⟩
  rw [← hbr, ← hb2]
  clear hx6 hbr hb2
  generalize w5.alloc (.cells #[.int .i64 0, .int .i64 0, .int .i64 0, .slice (some ⟨g5, 0, none⟩) m cap5] 83) = w6 at H6 ⊢
  have t4 := H6.out.1.b.at_ (i := 4) rfl
  rw [← HNM.out.2] at t4
  go_wp2_with fail
  clear t4
  go_loopw [6, 36] (fun _ v wr => ∃ i : Nat, v = .int .i64 i ∧ i ≤ m ∧ Aside0 (Kp (fun k => k = br) w6 wr ∧ Blk wr br [.int .i64 (sumU woolS xs (us.take i)), .int .i64 (sumU Sb.veg xs (us.take i)), .int .i64 (sumU Sb.raw xs (us.take i)), .slice (some ⟨g5, 0, none⟩) m cap5] 83)) (fun _ v _ => m - (intOf v).toNat)
  case atStart => exact ⟨0, rfl, by omega, ⟨Kp.refl _ _, H6.out.2.1⟩⟩
  case round =>
    obtain ⟨i, rfl, hi, HI⟩ := hrel
    obtain ⟨wo, rfl⟩ : ∃ wo : World, wo = wr := ⟨_, rfl⟩
    have hbrt : bt ≠ br := (H6.out.1.b.ne_of_type H6.out.2.1 (by decide))
    by_cases hlt : i < m
    · have hlti : (i : Int) < m := by omega
      have HTO := Aside0.mk (H6.out.1.kpT HI.out.1 H6.out.2.1)
      have hu : us.getD i 0 ∈ us := by rw [List.getD_eq_getElem?_getD, List.getElem?_eq_getElem (by rw [← HNM.out.2]; exact hlt)]; exact List.getElem_mem _
      have hub := HOK.out.2 _ hu
      obtain ⟨U, hU⟩ : ∃ U : Nat, us.getD i 0 = U := ⟨(us.getD i 0).toNat, by omega⟩
      have hUn : U < xs.length := by omega
      have gi : wo.cell? ⟨gu, i, none⟩ = some (.int .i64 U) := by
        obtain ⟨A7, c7, e7, _, hc⟩ := Kd.R_reads HTO.out.u
        cases e7
        obtain ⟨ad', e, hg⟩ := Kd.at_int hc (i : Int) (by omega) (by rw [← HNM.out.2]; exact hlti)
        cases e
        rw [Int.toNat_natCast, add_plain] at hg
        rw [← hU]
        simpa [rd] using hg
      have e1 := sumU_snoc woolS xs us (i := i) (by rw [← HNM.out.2]; exact hlt)
      have e2 := sumU_snoc Sb.veg xs us (i := i) (by rw [← HNM.out.2]; exact hlt)
      have e3 := sumU_snoc Sb.raw xs us (i := i) (by rw [← HNM.out.2]; exact hlt)
      rw [hU, Int.toNat_natCast] at e1 e2 e3
      have hln : (us.take i).length ≤ 8 := by rw [List.length_take]; omega
      have w1b := sumU_bd woolS xs HFW.out (us.take i)
      have w2b := sumU_bd Sb.veg xs HFV.out (us.take i)
      have w3b := sumU_bd Sb.raw xs HFR.out (us.take i)
      have f1b := HFW.out U
      have f2b := HFV.out U
      have f3b := HFR.out U
      have HRB0 := HI.out.2
      have HWL := Aside0.mk (fun W => wool_any W (rdQ_ok HOK.out.1 U))
      have HSUB := Aside0.mk (fun (W : World) (hW : TO W N ok bt xs tol 1 us (.slice (some ad) xs.length c) (.slice (some ⟨gu, 0, none⟩) us.length cu)) => (by
        obtain ⟨A7, c7, e7, _, hc⟩ := Kd.R_reads hW.s
        cases e7
        obtain ⟨ad1, e, d0, d1, d2, d3, d4⟩ := at_Q hc U hUn
        cases e
        have t3 := hW.b.at_ (i := 3) rfl
        rw [← HNM.out.1] at t3
        exact ⟨t3, d0, d1, d2, d3, d4⟩ : W.cell? ⟨bt, 3, none⟩ = some (.slice (some ad) n c) ∧ W.cell? (ad.add (U * 5)) = some (.int .i64 (rdQ xs U).raw) ∧ W.cell? ⟨(ad.add (U * 5)).block, (ad.add (U * 5)).off + 1, none⟩ = some (.int .i64 (rdQ xs U).dry) ∧ W.cell? ⟨(ad.add (U * 5)).block, (ad.add (U * 5)).off + 2, none⟩ = some (.int .i64 (rdQ xs U).ash) ∧ W.cell? ⟨(ad.add (U * 5)).block, (ad.add (U * 5)).off + 3, none⟩ = some (.int .i64 (rdQ xs U).gre) ∧ W.cell? ⟨(ad.add (U * 5)).block, (ad.add (U * 5)).off + 4, none⟩ = some (.int .i64 (rdQ xs U).veg)))
      obtain ⟨W0, hW0⟩ : ∃ z, z = sumU woolS xs (us.take i) := ⟨_, rfl⟩
      obtain ⟨V0, hV0⟩ : ∃ z, z = sumU Sb.veg xs (us.take i) := ⟨_, rfl⟩
      obtain ⟨Z0, hZ0⟩ : ∃ z, z = sumU Sb.raw xs (us.take i) := ⟨_, rfl⟩
      obtain ⟨wl, hwl⟩ : ∃ z, z = woolS (rdQ xs U) := ⟨_, rfl⟩
      rw [← hW0] at e1 w1b HRB0
      rw [← hV0] at e2 w2b HRB0
      rw [← hZ0] at e3 w3b HRB0
      rw [← hwl] at e1 f1b HWL
      generalize rdQ xs U = Y at HSUB HWL e2 e3 f2b f3b
      obtain ⟨qr, qd, qa, qg, qv⟩ := Y
      dsimp only at HSUB HWL e2 e3 f2b f3b
      have HE := Aside0.mk (And.intro e1 (And.intro e2 e3))
      have HRB := Aside0.mk HRB0
      rw [← HNM.out.1] at hUn
      have hUi : (U : Int) < n := by omega
      obtain ⟨wa, wb⟩ := w1b
      obtain ⟨va, vb⟩ := w2b
      obtain ⟨za, zb⟩ := w3b
      obtain ⟨f11, f12⟩ := f1b
      obtain ⟨f21, f22⟩ := f2b
      obtain ⟨f31, f32⟩ := f3b
      have k1 : IntKind.i64.wrap (W0 + wl) = W0 + wl := IntWalk.i64_in _ (by omega)
      have k2 : IntKind.i64.wrap (V0 + qv) = V0 + qv := IntWalk.i64_in _ (by omega)
      have k3 : IntKind.i64.wrap (Z0 + qr) = Z0 + qr := IntWalk.i64_in _ (by omega)
      clear e1 e2 e3 hW0 hV0 hZ0 hwl hU hu hub HRB0 hln wa wb va vb za zb f11 f12 f21 f22 f31 f32
      have HSA := Aside0.mk (fun (W : World) (hW : Below wo.heap.size wo W) => And.intro ((HRB.out.below hW).at_ (i := 0) rfl) (HSUB.out W (HTO.out.below hW)))
      go_upto_region 9 with fail
      clear gi
      refine start_ (n := 13) (S := (fun W => W.cell? ⟨br, 0, none⟩ = some (.int .i64 W0) ∧ W.cell? ⟨bt, 3, none⟩ = some (.slice (some ad) n c) ∧ W.cell? (ad.add (U * 5)) = some (.int .i64 qr) ∧ W.cell? ⟨(ad.add (U * 5)).block, (ad.add (U * 5)).off + 1, none⟩ = some (.int .i64 qd) ∧ W.cell? ⟨(ad.add (U * 5)).block, (ad.add (U * 5)).off + 2, none⟩ = some (.int .i64 qa) ∧ W.cell? ⟨(ad.add (U * 5)).block, (ad.add (U * 5)).off + 3, none⟩ = some (.int .i64 qg) ∧ W.cell? ⟨(ad.add (U * 5)).block, (ad.add (U * 5)).off + 4, none⟩ = some (.int .i64 qv))) (ds := [12]) #[false, false, false, false, false, false, false, false, false, false, false, false, false] (by kernel_rfl) rfl rfl (HSA.out _ (below_drew (Below.refl _ _))) (fun hHeld => ?_)
      refine pure_ (i := 0) (N := some 40) (v := ?_) (a' := ?_) #[true, false, false, false, false, false, false, false, false, false, false, false, false] rfl rfl (by kernel_rfl) (fun _ _ _ h => h) (Or.inl ⟨by rfl, ?_⟩) ?_ ?_
      rotate_left
      · intro w'
        go_simp
        with_reducible rfl
      rotate_left
      · simp only [Act.put, List.setIfInBounds_toArray, List.set_cons_zero, List.set_cons_succ, i64_w, i32_w]
        rfl
      refine take_ (i := 1) (N := some 41) (v := ?_) (a' := ?_) #[true, true, false, false, false, false, false, false, false, false, false, false, false] rfl rfl (by kernel_rfl) (fun _ _ _ h => h) (Or.inl ⟨by rfl, ?_⟩) hHeld ?_ ?_
      rotate_left
      · rintro w' ⟨s0, s1, s2, s3, s4, s5, s6⟩
        go_simp
        with_reducible rfl
      rotate_left
      · simp only [Act.put, List.setIfInBounds_toArray, List.set_cons_zero, List.set_cons_succ, i64_w, i32_w]
        rfl
      refine pure_ (i := 2) (N := some 42) (v := ?_) (a' := ?_) #[true, true, true, false, false, false, false, false, false, false, false, false, false] rfl rfl (by kernel_rfl) (fun _ _ _ h => h) (Or.inl ⟨by rfl, ?_⟩) ?_ ?_
      rotate_left
      · intro w'
        go_simp
        with_reducible rfl
      rotate_left
      · simp only [Act.put, List.setIfInBounds_toArray, List.set_cons_zero, List.set_cons_succ, i64_w, i32_w]
        rfl
      refine pure_ (i := 3) (N := some 43) (v := ?_) (a' := ?_) #[true, true, true, true, false, false, false, false, false, false, false, false, false] rfl rfl (by kernel_rfl) (fun _ _ _ h => h) (Or.inl ⟨by rfl, ?_⟩) ?_ ?_
      rotate_left
      · intro w'
        go_simp
        with_reducible rfl
      rotate_left
      · simp only [Act.put, List.setIfInBounds_toArray, List.set_cons_zero, List.set_cons_succ, i64_w, i32_w]
        rfl
      refine pure_ (i := 4) (N := some 44) (v := ?_) (a' := ?_) #[true, true, true, true, true, false, false, false, false, false, false, false, false] rfl rfl (by kernel_rfl) (fun _ _ _ h => h) (Or.inl ⟨by rfl, ?_⟩) ?_ ?_
      rotate_left
      · intro w'
        go_simp
        with_reducible rfl
      rotate_left
      · simp only [Act.put, List.setIfInBounds_toArray, List.set_cons_zero, List.set_cons_succ, i64_w, i32_w]
        rfl
      refine take_ (i := 5) (N := some 45) (v := ?_) (a' := ?_) #[true, true, true, true, true, true, false, false, false, false, false, false, false] rfl rfl (by kernel_rfl) (fun _ _ _ h => h) (Or.inl ⟨by rfl, ?_⟩) hHeld ?_ ?_
      rotate_left
      · rintro w' ⟨s0, s1, s2, s3, s4, s5, s6⟩
        go_simp
        with_reducible rfl
      rotate_left
      · simp only [Act.put, List.setIfInBounds_toArray, List.set_cons_zero, List.set_cons_succ, i64_w, i32_w]
        rfl
      refine pure_ (i := 6) (N := some 46) (v := ?_) (a' := ?_) #[true, true, true, true, true, true, true, false, false, false, false, false, false] rfl rfl (by kernel_rfl) (fun _ _ _ h => h) (Or.inl ⟨by rfl, ?_⟩) ?_ ?_
      rotate_left
      · intro w'
        go_simp
        with_reducible rfl
      rotate_left
      · simp only [Act.put, List.setIfInBounds_toArray, List.set_cons_zero, List.set_cons_succ, i64_w, i32_w]
        rfl
      refine pure_ (i := 7) (N := some 47) (v := ?_) (a' := ?_) #[true, true, true, true, true, true, true, true, false, false, false, false, false] rfl rfl (by kernel_rfl) (fun _ _ _ h => h) (Or.inl ⟨by rfl, ?_⟩) ?_ ?_
      rotate_left
      · intro w'
        go_simp
        with_reducible rfl
      rotate_left
      · simp only [Act.put, List.setIfInBounds_toArray, List.set_cons_zero, List.set_cons_succ, i64_w, i32_w]
        rfl
      refine take_ (i := 8) (N := some 48) (v := ?_) (a' := ?_) #[true, true, true, true, true, true, true, true, true, false, false, false, false] rfl rfl (by kernel_rfl) (fun _ _ _ h => h) (Or.inl ⟨by rfl, ?_⟩) hHeld ?_ ?_
      rotate_left
      · rintro w' ⟨s0, s1, s2, s3, s4, s5, s6⟩
        go_simp
        with_reducible rfl
      rotate_left
      · simp only [Act.put, List.setIfInBounds_toArray, List.set_cons_zero, List.set_cons_succ, i64_w, i32_w]
        rfl
      refine one_ (i := 9) (N := some 49) #[true, true, true, true, true, true, true, true, true, true, false, false, false] rfl rfl (by kernel_rfl) (by decide) (fun K hK => ?_)
      refine goes_ Try.func71 (by kernel_rfl) rfl #[.agg #[.int .i64 qr, .int .i64 qd, .int .i64 qa, .int .i64 qg, .int .i64 qv]] (by rfl) rfl rfl (by (try simp only [List.map_toArray, List.map_cons, List.map_nil]); first | done | rfl) ?_
      with_reducible refine (HWL.out _).mono ?_
      rintro e8 w8 ⟨rfl, hb8⟩
      refine ⟨_, rfl, ?_⟩
      have HB8 := Aside0.mk (show Below wo.heap.size wo w8 from below_step (below_drew (Below.refl _ _)) hb8)
      clear hb8
      refine hK.out _ _ (HSA.out _ HB8.out) (fun hHeld => ?_)
      clear hK K
      refine norm_ (a' := ?_) ?_ ?_
      rotate_left
      · show Act.put _ (some 49) _ = _
        simp only [Act.put, List.setIfInBounds_toArray, List.set_cons_zero, List.set_cons_succ, i64_w, i32_w]
        rfl
      refine pure_ (i := 10) (N := some 50) (v := ?_) (a' := ?_) #[true, true, true, true, true, true, true, true, true, true, true, false, false] rfl rfl (by kernel_rfl) (fun _ _ _ h => h) (Or.inl ⟨by rfl, ?_⟩) ?_ ?_
      rotate_left
      · intro w'
        go_simp
        with_reducible rfl
      rotate_left
      · simp only [Act.put, List.setIfInBounds_toArray, List.set_cons_zero, List.set_cons_succ, i64_w, i32_w]
        rfl
      refine pure_ (i := 11) (N := some 51) (v := ?_) (a' := ?_) #[true, true, true, true, true, true, true, true, true, true, true, true, false] rfl rfl (by kernel_rfl) (fun _ _ _ h => h) (Or.inl ⟨by rfl, ?_⟩) ?_ ?_
      rotate_left
      · intro w'
        go_simp
        with_reducible rfl
      rotate_left
      · simp only [Act.put, List.setIfInBounds_toArray, List.set_cons_zero, List.set_cons_succ, i64_w, i32_w]
        rfl
      refine last_ (i := 12) (N := none) #[true, true, true, true, true, true, true, true, true, true, true, true, true] rfl rfl (by kernel_rfl) (by decide) (fun K hK => ?_)
      have hx8 := HRB.out.below HB8.out
      have cb4 := hx8.at_ (i := 0) rfl
      have fb4 := hx8.free 0
      clear hx8
      refine skip_ (w1 := ?_) (by rfl) rfl ?_ ?_
      rotate_left
      · go_simp
        rfl
      refine hK.out _ _ ?_
      clear hK K
      refine done_ (by kernel_rfl) ?_
      go_upto_region 10 with fail
      have HR9 := Aside0.mk ((HRB.out.below HB8.out).set 0 (.int .i64 (W0 + wl)))
      have HK9 := Aside0.mk ((Kp.of_below HB8.out : Kp (fun k => k = br) wo w8).setCell (p := ⟨br, 0, none⟩) (fun _ => rfl) (.int .i64 (W0 + wl)))
      generalize w8.setCell ⟨br, 0, none⟩ (.int .i64 (W0 + wl)) = w9 at HR9 HK9 ⊢
      clear hHeld cb4 fb4
      have HT9 := Aside0.mk (HTO.out.kpT HK9.out HRB.out)
      have HSB := Aside0.mk (fun (W : World) (hW : Below w9.heap.size w9 W) => And.intro ((HR9.out.below hW).at_ (i := 1) rfl) (HSUB.out W (HT9.out.below hW)))
      refine start_ (n := 13) (S := (fun W => W.cell? ⟨br, 1, none⟩ = some (.int .i64 V0) ∧ W.cell? ⟨bt, 3, none⟩ = some (.slice (some ad) n c) ∧ W.cell? (ad.add (U * 5)) = some (.int .i64 qr) ∧ W.cell? ⟨(ad.add (U * 5)).block, (ad.add (U * 5)).off + 1, none⟩ = some (.int .i64 qd) ∧ W.cell? ⟨(ad.add (U * 5)).block, (ad.add (U * 5)).off + 2, none⟩ = some (.int .i64 qa) ∧ W.cell? ⟨(ad.add (U * 5)).block, (ad.add (U * 5)).off + 3, none⟩ = some (.int .i64 qg) ∧ W.cell? ⟨(ad.add (U * 5)).block, (ad.add (U * 5)).off + 4, none⟩ = some (.int .i64 qv))) (ds := [12]) #[false, false, false, false, false, false, false, false, false, false, false, false, false] (by kernel_rfl) rfl rfl (HSB.out _ (below_drew (Below.refl _ _))) (fun hHeld => ?_)
      refine pure_ (i := 0) (N := some 52) (v := ?_) (a' := ?_) #[true, false, false, false, false, false, false, false, false, false, false, false, false] rfl rfl (by kernel_rfl) (fun _ _ _ h => h) (Or.inl ⟨by rfl, ?_⟩) ?_ ?_
      rotate_left
      · intro w'
        go_simp
        with_reducible rfl
      rotate_left
      · simp only [Act.put, List.setIfInBounds_toArray, List.set_cons_zero, List.set_cons_succ, i64_w, i32_w]
        rfl
      refine take_ (i := 1) (N := some 53) (v := ?_) (a' := ?_) #[true, true, false, false, false, false, false, false, false, false, false, false, false] rfl rfl (by kernel_rfl) (fun _ _ _ h => h) (Or.inl ⟨by rfl, ?_⟩) hHeld ?_ ?_
      rotate_left
      · rintro w' ⟨s0, s1, s2, s3, s4, s5, s6⟩
        go_simp
        with_reducible rfl
      rotate_left
      · simp only [Act.put, List.setIfInBounds_toArray, List.set_cons_zero, List.set_cons_succ, i64_w, i32_w]
        rfl
      refine pure_ (i := 2) (N := some 54) (v := ?_) (a' := ?_) #[true, true, true, false, false, false, false, false, false, false, false, false, false] rfl rfl (by kernel_rfl) (fun _ _ _ h => h) (Or.inl ⟨by rfl, ?_⟩) ?_ ?_
      rotate_left
      · intro w'
        go_simp
        with_reducible rfl
      rotate_left
      · simp only [Act.put, List.setIfInBounds_toArray, List.set_cons_zero, List.set_cons_succ, i64_w, i32_w]
        rfl
      refine pure_ (i := 3) (N := some 55) (v := ?_) (a' := ?_) #[true, true, true, true, false, false, false, false, false, false, false, false, false] rfl rfl (by kernel_rfl) (fun _ _ _ h => h) (Or.inl ⟨by rfl, ?_⟩) ?_ ?_
      rotate_left
      · intro w'
        go_simp
        with_reducible rfl
      rotate_left
      · simp only [Act.put, List.setIfInBounds_toArray, List.set_cons_zero, List.set_cons_succ, i64_w, i32_w]
        rfl
      refine pure_ (i := 4) (N := some 56) (v := ?_) (a' := ?_) #[true, true, true, true, true, false, false, false, false, false, false, false, false] rfl rfl (by kernel_rfl) (fun _ _ _ h => h) (Or.inl ⟨by rfl, ?_⟩) ?_ ?_
      rotate_left
      · intro w'
        go_simp
        with_reducible rfl
      rotate_left
      · simp only [Act.put, List.setIfInBounds_toArray, List.set_cons_zero, List.set_cons_succ, i64_w, i32_w]
        rfl
      refine take_ (i := 5) (N := some 57) (v := ?_) (a' := ?_) #[true, true, true, true, true, true, false, false, false, false, false, false, false] rfl rfl (by kernel_rfl) (fun _ _ _ h => h) (Or.inl ⟨by rfl, ?_⟩) hHeld ?_ ?_
      rotate_left
      · rintro w' ⟨s0, s1, s2, s3, s4, s5, s6⟩
        go_simp
        with_reducible rfl
      rotate_left
      · simp only [Act.put, List.setIfInBounds_toArray, List.set_cons_zero, List.set_cons_succ, i64_w, i32_w]
        rfl
      refine pure_ (i := 6) (N := some 58) (v := ?_) (a' := ?_) #[true, true, true, true, true, true, true, false, false, false, false, false, false] rfl rfl (by kernel_rfl) (fun _ _ _ h => h) (Or.inl ⟨by rfl, ?_⟩) ?_ ?_
      rotate_left
      · intro w'
        go_simp
        with_reducible rfl
      rotate_left
      · simp only [Act.put, List.setIfInBounds_toArray, List.set_cons_zero, List.set_cons_succ, i64_w, i32_w]
        rfl
      refine pure_ (i := 7) (N := some 59) (v := ?_) (a' := ?_) #[true, true, true, true, true, true, true, true, false, false, false, false, false] rfl rfl (by kernel_rfl) (fun _ _ _ h => h) (Or.inl ⟨by rfl, ?_⟩) ?_ ?_
      rotate_left
      · intro w'
        go_simp
        with_reducible rfl
      rotate_left
      · simp only [Act.put, List.setIfInBounds_toArray, List.set_cons_zero, List.set_cons_succ, i64_w, i32_w]
        rfl
      refine pure_ (i := 8) (N := some 60) (v := ?_) (a' := ?_) #[true, true, true, true, true, true, true, true, true, false, false, false, false] rfl rfl (by kernel_rfl) (fun _ _ _ h => h) (Or.inl ⟨by rfl, ?_⟩) ?_ ?_
      rotate_left
      · intro w'
        go_simp
        with_reducible rfl
      rotate_left
      · simp only [Act.put, List.setIfInBounds_toArray, List.set_cons_zero, List.set_cons_succ, i64_w, i32_w]
        rfl
      refine take_ (i := 9) (N := some 61) (v := ?_) (a' := ?_) #[true, true, true, true, true, true, true, true, true, true, false, false, false] rfl rfl (by kernel_rfl) (fun _ _ _ h => h) (Or.inl ⟨by rfl, ?_⟩) hHeld ?_ ?_
      rotate_left
      · rintro w' ⟨s0, s1, s2, s3, s4, s5, s6⟩
        go_simp
        with_reducible rfl
      rotate_left
      · simp only [Act.put, List.setIfInBounds_toArray, List.set_cons_zero, List.set_cons_succ, i64_w, i32_w]
        rfl
      refine pure_ (i := 10) (N := some 62) (v := ?_) (a' := ?_) #[true, true, true, true, true, true, true, true, true, true, true, false, false] rfl rfl (by kernel_rfl) (fun _ _ _ h => h) (Or.inl ⟨by rfl, ?_⟩) ?_ ?_
      rotate_left
      · intro w'
        go_simp
        with_reducible rfl
      rotate_left
      · simp only [Act.put, List.setIfInBounds_toArray, List.set_cons_zero, List.set_cons_succ, i64_w, i32_w]
        rfl
      refine pure_ (i := 11) (N := some 63) (v := ?_) (a' := ?_) #[true, true, true, true, true, true, true, true, true, true, true, true, false] rfl rfl (by kernel_rfl) (fun _ _ _ h => h) (Or.inl ⟨by rfl, ?_⟩) ?_ ?_
      rotate_left
      · intro w'
        go_simp
        with_reducible rfl
      rotate_left
      · simp only [Act.put, List.setIfInBounds_toArray, List.set_cons_zero, List.set_cons_succ, i64_w, i32_w]
        rfl
      refine last_ (i := 12) (N := none) #[true, true, true, true, true, true, true, true, true, true, true, true, true] rfl rfl (by kernel_rfl) (by decide) (fun K hK => ?_)
      have hx8 := HR9.out.below (below_drew (Below.refl w9.heap.size w9))
      have cb4 := hx8.at_ (i := 1) rfl
      have fb4 := hx8.free 1
      clear hx8
      refine skip_ (w1 := ?_) (by rfl) rfl ?_ ?_
      rotate_left
      · go_simp
        rfl
      refine hK.out _ _ ?_
      clear hK K
      refine done_ (by kernel_rfl) ?_
      go_upto_region 11 with fail
      have HR10 := Aside0.mk ((HR9.out.set 1 (.int .i64 (V0 + qv))).drew)
      have HK10 := Aside0.mk ((HK9.out.setCell (p := ⟨br, 1, none⟩) (fun _ => rfl) (.int .i64 (V0 + qv))).drew)
      generalize (w9.setCell ⟨br, 1, none⟩ (.int .i64 (V0 + qv))).drew = w10 at HR10 HK10 ⊢
      clear hHeld cb4 fb4
      have HT10 := Aside0.mk (HTO.out.kpT HK10.out HRB.out)
      have HSC := Aside0.mk (fun (W : World) (hW : Below w10.heap.size w10 W) => And.intro ((HR10.out.below hW).at_ (i := 2) rfl) (HSUB.out W (HT10.out.below hW)))
      refine start_ (n := 13) (S := (fun W => W.cell? ⟨br, 2, none⟩ = some (.int .i64 Z0) ∧ W.cell? ⟨bt, 3, none⟩ = some (.slice (some ad) n c) ∧ W.cell? (ad.add (U * 5)) = some (.int .i64 qr) ∧ W.cell? ⟨(ad.add (U * 5)).block, (ad.add (U * 5)).off + 1, none⟩ = some (.int .i64 qd) ∧ W.cell? ⟨(ad.add (U * 5)).block, (ad.add (U * 5)).off + 2, none⟩ = some (.int .i64 qa) ∧ W.cell? ⟨(ad.add (U * 5)).block, (ad.add (U * 5)).off + 3, none⟩ = some (.int .i64 qg) ∧ W.cell? ⟨(ad.add (U * 5)).block, (ad.add (U * 5)).off + 4, none⟩ = some (.int .i64 qv))) (ds := [12]) #[false, false, false, false, false, false, false, false, false, false, false, false, false] (by kernel_rfl) rfl rfl (HSC.out _ (below_drew (Below.refl _ _))) (fun hHeld => ?_)
      refine pure_ (i := 0) (N := some 64) (v := ?_) (a' := ?_) #[true, false, false, false, false, false, false, false, false, false, false, false, false] rfl rfl (by kernel_rfl) (fun _ _ _ h => h) (Or.inl ⟨by rfl, ?_⟩) ?_ ?_
      rotate_left
      · intro w'
        go_simp
        with_reducible rfl
      rotate_left
      · simp only [Act.put, List.setIfInBounds_toArray, List.set_cons_zero, List.set_cons_succ, i64_w, i32_w]
        rfl
      refine take_ (i := 1) (N := some 65) (v := ?_) (a' := ?_) #[true, true, false, false, false, false, false, false, false, false, false, false, false] rfl rfl (by kernel_rfl) (fun _ _ _ h => h) (Or.inl ⟨by rfl, ?_⟩) hHeld ?_ ?_
      rotate_left
      · rintro w' ⟨s0, s1, s2, s3, s4, s5, s6⟩
        go_simp
        with_reducible rfl
      rotate_left
      · simp only [Act.put, List.setIfInBounds_toArray, List.set_cons_zero, List.set_cons_succ, i64_w, i32_w]
        rfl
      refine pure_ (i := 2) (N := some 66) (v := ?_) (a' := ?_) #[true, true, true, false, false, false, false, false, false, false, false, false, false] rfl rfl (by kernel_rfl) (fun _ _ _ h => h) (Or.inl ⟨by rfl, ?_⟩) ?_ ?_
      rotate_left
      · intro w'
        go_simp
        with_reducible rfl
      rotate_left
      · simp only [Act.put, List.setIfInBounds_toArray, List.set_cons_zero, List.set_cons_succ, i64_w, i32_w]
        rfl
      refine pure_ (i := 3) (N := some 67) (v := ?_) (a' := ?_) #[true, true, true, true, false, false, false, false, false, false, false, false, false] rfl rfl (by kernel_rfl) (fun _ _ _ h => h) (Or.inl ⟨by rfl, ?_⟩) ?_ ?_
      rotate_left
      · intro w'
        go_simp
        with_reducible rfl
      rotate_left
      · simp only [Act.put, List.setIfInBounds_toArray, List.set_cons_zero, List.set_cons_succ, i64_w, i32_w]
        rfl
      refine pure_ (i := 4) (N := some 68) (v := ?_) (a' := ?_) #[true, true, true, true, true, false, false, false, false, false, false, false, false] rfl rfl (by kernel_rfl) (fun _ _ _ h => h) (Or.inl ⟨by rfl, ?_⟩) ?_ ?_
      rotate_left
      · intro w'
        go_simp
        with_reducible rfl
      rotate_left
      · simp only [Act.put, List.setIfInBounds_toArray, List.set_cons_zero, List.set_cons_succ, i64_w, i32_w]
        rfl
      refine take_ (i := 5) (N := some 69) (v := ?_) (a' := ?_) #[true, true, true, true, true, true, false, false, false, false, false, false, false] rfl rfl (by kernel_rfl) (fun _ _ _ h => h) (Or.inl ⟨by rfl, ?_⟩) hHeld ?_ ?_
      rotate_left
      · rintro w' ⟨s0, s1, s2, s3, s4, s5, s6⟩
        go_simp
        with_reducible rfl
      rotate_left
      · simp only [Act.put, List.setIfInBounds_toArray, List.set_cons_zero, List.set_cons_succ, i64_w, i32_w]
        rfl
      refine pure_ (i := 6) (N := some 70) (v := ?_) (a' := ?_) #[true, true, true, true, true, true, true, false, false, false, false, false, false] rfl rfl (by kernel_rfl) (fun _ _ _ h => h) (Or.inl ⟨by rfl, ?_⟩) ?_ ?_
      rotate_left
      · intro w'
        go_simp
        with_reducible rfl
      rotate_left
      · simp only [Act.put, List.setIfInBounds_toArray, List.set_cons_zero, List.set_cons_succ, i64_w, i32_w]
        rfl
      refine pure_ (i := 7) (N := some 71) (v := ?_) (a' := ?_) #[true, true, true, true, true, true, true, true, false, false, false, false, false] rfl rfl (by kernel_rfl) (fun _ _ _ h => h) (Or.inl ⟨by rfl, ?_⟩) ?_ ?_
      rotate_left
      · intro w'
        go_simp
        with_reducible rfl
      rotate_left
      · simp only [Act.put, List.setIfInBounds_toArray, List.set_cons_zero, List.set_cons_succ, i64_w, i32_w]
        rfl
      refine pure_ (i := 8) (N := some 72) (v := ?_) (a' := ?_) #[true, true, true, true, true, true, true, true, true, false, false, false, false] rfl rfl (by kernel_rfl) (fun _ _ _ h => h) (Or.inl ⟨by rfl, ?_⟩) ?_ ?_
      rotate_left
      · intro w'
        go_simp
        with_reducible rfl
      rotate_left
      · simp only [Act.put, List.setIfInBounds_toArray, List.set_cons_zero, List.set_cons_succ, i64_w, i32_w]
        rfl
      refine take_ (i := 9) (N := some 73) (v := ?_) (a' := ?_) #[true, true, true, true, true, true, true, true, true, true, false, false, false] rfl rfl (by kernel_rfl) (fun _ _ _ h => h) (Or.inl ⟨by rfl, ?_⟩) hHeld ?_ ?_
      rotate_left
      · rintro w' ⟨s0, s1, s2, s3, s4, s5, s6⟩
        go_simp
        with_reducible rfl
      rotate_left
      · simp only [Act.put, List.setIfInBounds_toArray, List.set_cons_zero, List.set_cons_succ, i64_w, i32_w]
        rfl
      refine pure_ (i := 10) (N := some 74) (v := ?_) (a' := ?_) #[true, true, true, true, true, true, true, true, true, true, true, false, false] rfl rfl (by kernel_rfl) (fun _ _ _ h => h) (Or.inl ⟨by rfl, ?_⟩) ?_ ?_
      rotate_left
      · intro w'
        go_simp
        with_reducible rfl
      rotate_left
      · simp only [Act.put, List.setIfInBounds_toArray, List.set_cons_zero, List.set_cons_succ, i64_w, i32_w]
        rfl
      refine pure_ (i := 11) (N := some 75) (v := ?_) (a' := ?_) #[true, true, true, true, true, true, true, true, true, true, true, true, false] rfl rfl (by kernel_rfl) (fun _ _ _ h => h) (Or.inl ⟨by rfl, ?_⟩) ?_ ?_
      rotate_left
      · intro w'
        go_simp
        with_reducible rfl
      rotate_left
      · simp only [Act.put, List.setIfInBounds_toArray, List.set_cons_zero, List.set_cons_succ, i64_w, i32_w]
        rfl
      refine last_ (i := 12) (N := none) #[true, true, true, true, true, true, true, true, true, true, true, true, true] rfl rfl (by kernel_rfl) (by decide) (fun K hK => ?_)
      have hx8 := HR10.out.below (below_drew (Below.refl w10.heap.size w10))
      have cb4 := hx8.at_ (i := 2) rfl
      have fb4 := hx8.free 2
      clear hx8
      refine skip_ (w1 := ?_) (by rfl) rfl ?_ ?_
      rotate_left
      · go_simp
        rfl
      refine hK.out _ _ ?_
      clear hK K
      refine done_ (by kernel_rfl) ?_
      have HR11 := Aside0.mk ((HR10.out.set 2 (.int .i64 (Z0 + qr))).drew)
      have HK11 := Aside0.mk ((HK10.out.setCell (p := ⟨br, 2, none⟩) (fun _ => rfl) (.int .i64 (Z0 + qr))).drew)
      clear hHeld cb4 fb4
      go_wp2_with fail
      go_roundw
      case rel => exact ⟨i + 1, by go_num, by omega, ⟨HI.out.1.step HK11.out, by rw [HE.out.1, HE.out.2.1, HE.out.2.2]; exact HR11.out⟩⟩
      case measure => simp [intOf]; omega
    · have hlti : ¬ (i : Int) < m := by omega
      have hfin := HI.out.2
      rw [List.take_of_length_le (by rw [← HNM.out.2]; omega)] at hfin
      have a0 := hfin.at_ (i := 0) rfl
      have a1 := hfin.at_ (i := 1) rfl
      have a2 := hfin.at_ (i := 2) rfl
      have a3 := hfin.at_ (i := 3) rfl
      have hb2 := H6.out.2.2.1.kp HI.out.1 (by have := HBR.out; omega)
      have z0 := hb2.at_ (i := 0) rfl
      have z1 := hb2.at_ (i := 1) rfl
      have z2 := hb2.at_ (i := 2) rfl
      have z3 := hb2.at_ (i := 3) rfl
      have zf := hb2.free
      have HRI := Aside0.mk ((RI_of (by have := H6.out.2.2.2.1; rwa [HNM.out.2] at this) (fun _ _ => trivial) : RI w6 w.heap.size (fun _ => True) (.slice (some ⟨g5, 0, none⟩) us.length cap5) us).kpT HI.out.1 H6.out.2.1)
      rw [← HNM.out.2] at HRI
      have HBB : Aside0 (Below w.heap.size w wo) := ⟨((Kp.of_below H6.out.2.2.2.2 : Kp (fun k => k = br) w w6).step HI.out.1).below_of (fun k hk => by have := HBR.out; omega)⟩
      obtain ⟨sw, hsw⟩ : ∃ z, z = sumU woolS xs us := ⟨_, rfl⟩
      obtain ⟨sv, hsv⟩ : ∃ z, z = sumU Sb.veg xs us := ⟨_, rfl⟩
      obtain ⟨sr, hsr⟩ : ∃ z, z = sumU Sb.raw xs us := ⟨_, rfl⟩
      rw [← hsw, ← hsv, ← hsr] at HPOST
      rw [← hsw] at a0
      rw [← hsv] at a1
      rw [← hsr] at a2
      have HB2 := Aside0.mk hb2
      clear hsw hsv hsr hfin hb2
      go_wp2_with fail
      have hF := (((HB2.out.set 0 (.int .i64 sw)).set 1 (.int .i64 sv)).set 2 (.int .i64 sr)).set 3 (.slice (some ⟨g5, 0, none⟩) m cap5)
      have r0 := hF.at_ (i := 0) rfl
      have r1 := hF.at_ (i := 1) rfl
      have r2 := hF.at_ (i := 2) rfl
      have r3 := hF.at_ (i := 3) rfl
      have ty3 : ∀ q, q ∈ 3 :: (Kd.int .i64).E → q ≠ 83 := by intro q h; simp [Kd.int, Kd.scalar] at h; omega
      refine bodyPost_ret (v := .tuple #[.agg #[.int .i64 sw, .int .i64 sv, .int .i64 sr, .slice (some ⟨g5, 0, none⟩) m cap5], .int .i64 0]) (by simp [results, Try.results51, go_sem, r0, r1, r2, r3]) rfl ?_
      refine HPOST.out _ g5 cap5 (Below.setCell (Below.setCell (Below.setCell (Below.setCell HBB.out (p := ⟨b2, 0, none⟩) (Nat.le_of_eq HBR.out.2.symm) _) (p := ⟨b2, 1, none⟩) (Nat.le_of_eq HBR.out.2.symm) _) (p := ⟨b2, 2, none⟩) (Nat.le_of_eq HBR.out.2.symm) _) (p := ⟨b2, 3, none⟩) (Nat.le_of_eq HBR.out.2.symm) _) ?_
      exact Kd.R_set (Kd.R_set (Kd.R_set (Kd.R_set HRI.out HB2.out ty3 0 _) (HB2.out.set 0 _) ty3 1 _) ((HB2.out.set 0 _).set 1 _) ty3 2 _) (((HB2.out.set 0 _).set 1 _).set 2 _) ty3 3 _
end Go.Proofs.Ythkfahkkcjagdaa

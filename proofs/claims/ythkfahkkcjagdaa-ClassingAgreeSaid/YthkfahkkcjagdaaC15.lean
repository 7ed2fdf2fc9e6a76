/- What Lines answers: its walk. -/
import Derived.Test.YthkfahkkcjagdaaC14
namespace Go.Proofs.Ythkfahkkcjagdaa
open Go.RowKit Go.Proofs.YthkfahkkcjagdaaW.PrintWords Go.Proofs.YthkfahkkcjagdaaW.PrintMore Go.Proofs.YthkfahkkcjagdaaW.PrintLast

theorem fdF_least (P : Nat → Bool) : ∀ (k d e : Nat), d ≤ e → e < d + k → P e = true → fdF P k d ≤ e
  | 0, d, e, h1, h2, _ => by omega
  | k + 1, d, e, h1, h2, h3 => by
    unfold fdF
    by_cases h : P d = true
    · rw [if_pos h]; exact h1
    · rw [if_neg h]
      rcases (show e = d ∨ d < e by omega) with rfl | h4
      · exact absurd h3 h
      · exact fdF_least P k (d + 1) e (by omega) (by omega) h3
theorem PlanM.lower {w : World} {N N' : Nat} {v : Value} {s : Nat → Fl} {ord : List Int} {least p : Int} {n : Nat} {ls : List (Nat × Nat × Nat × Nat)} (h : PlanM w N' v s ord least p n ls) (hN : N ≤ N') : PlanM w N v s ord least p n ls :=
  ⟨own_lower h.v hN, fun l hl => own_lower (h.f l hl) hN⟩
theorem lcs_length (s : Nat → Fl) (least p : Int) (n : Nat) (l : Nat × Nat × Nat × Nat) : (lcs s least p n l).length = 8 := rfl
theorem flat_lcs_length (s : Nat → Fl) (least p : Int) (n : Nat) (ls : List (Nat × Nat × Nat × Nat)) : (ls.flatMap (lcs s least p n)).length = ls.length * 8 := by
  induction ls with
  | nil => rfl
  | cons a l ih => rw [List.flatMap_cons, List.length_append, lcs_length, ih, List.length_cons]; omega
theorem wpl_line {ops : Array Oper} {rest : List Oper} {o : Oper} {a : Act} {Q : Exit → Act → World → Prop} {W : World} (w6 : World) (hgd : o.guard = none) (sl x : Operand)
    (ho : o.op = .call { callee := .builtin .append, args := #[sl, x], argTypes := #[27, 27] }) (v : Value) (s : Nat → Fl) (ord : List Int) (least p : Int) (n : Nat) (ls : List (Nat × Nat × Nat × Nat)) (hp : PlanM W w6.heap.size v s ord least p n ls)
    (l : Nat × Nat × Nat × Nat) (b : Nat) (hs : a.eval sl = v) (hx : a.eval x = .slice (some ⟨b, 0, none⟩) 1 1) (hb : W.heap[b]? = some (.cells (lcs s least p n l).toArray 37 (0, 0)))
    (hf : W.ownsRow w6.heap.size 3 1 (.slice (some ⟨l.1, 0, none⟩) l.2.2.2 l.2.1) l.2.2.2 (ints ((ord.drop l.2.2.1).take l.2.2.2))) (hl : ls.length ≤ 1000) (hB : Below w6.heap.size w6 W)
    (h : ∀ g cap w', PlanM w' w6.heap.size (.slice (some ⟨g, 0, none⟩) (ls.length + 1) cap) s ord least p n (ls ++ [l]) → Below w6.heap.size w6 w' → wpList Try.prog ops Q rest (a.put o.dst (.slice (some ⟨g, 0, none⟩) (ls.length + 1) cap)) w') :
    wpList Try.prog ops Q (o :: rest) a W := by
  obtain ⟨i, hi, he⟩ := Option.map_eq_some_iff.1 info37
  simp only [Prod.mk.injEq] at he
  refine wpList_append_lies W hgd sl x 27 ho w6.heap.size 37 i _ 8 56 Try.underlying27 hi he.1 he.2.1 he.2.2 rfl (by decide) v ls.length _ hs hp.v ⟨b, 0, none⟩ 1 1 (lcs s least p n l) hx rfl (World.news_of_block hb) (by simp [lcs, Value.oneCell']) (by decide) (by unfold maxLen; omega) (by omega) hB.size W.heap.size rfl ?_
  intro g cap w' h1 h2 h3 h4
  refine h g cap w' ⟨?_, fun l' hl' => ?_⟩ ⟨h2.os.trans hB.os, h2.tape.trans hB.tape, h2.output.trans hB.output, Nat.le_trans hB.size h2.size, fun k hk => ?_⟩
  · rw [List.flatMap_append, List.length_append]
    have e1 : [l].flatMap (lcs s least p n) = lcs s least p n l := by simp
    rw [e1]
    exact h1
  · have hr : W.ownsRow w6.heap.size 3 1 (.slice (some ⟨l'.1, 0, none⟩) l'.2.2.2 l'.2.1) l'.2.2.2 (ints ((ord.drop l'.2.2.1).take l'.2.2.2)) := by
      rcases List.mem_append.1 hl' with h5 | h5
      · exact hp.f l' h5
      · rw [List.mem_singleton.1 h5]; exact hf
    refine own_move hr fun k hk => h2.block k ?_ ?_
    · obtain ⟨c, hc⟩ := own_typed hr k hk
      exact lt_of_block hc
    · intro e
      obtain ⟨c1, hc1⟩ := own_typed hr k hk
      obtain ⟨c2, hc2⟩ := own_typed hp.v k e.symm
      rw [hc1] at hc2
      injection hc2 with hc2
      injection hc2 with _ h6
      exact absurd h6 (by decide)
  · refine (h2.block k (Nat.lt_of_lt_of_le hk hB.size) (fun e => ?_)).trans (hB.block k hk)
    rcases hp.v.2 with ⟨e1, _⟩ | ⟨g', cap', cur, e1, hg, _⟩
    · rw [e1] at e; simp [Value.ownBlock] at e
    · rw [e1] at e
      simp only [Value.ownBlock, Option.some.injEq] at e
      omega
theorem ret3 {a b c a' b' c' : Value} (h1 : a = a') (h2 : b = b') (h3 : c = c') : Ending.returned (.tuple #[a, b, c]) = .returned (.tuple #[a', b', c']) := by rw [h1, h2, h3]
set_option maxHeartbeats 8000000 in
set_option maxRecDepth 100000 in
theorem lines_bad (w : World) (A : Option Addr) (c : Nat) (fs : List Fl) (h : kF.C w A fs.length fs) (hk : KOK fs) (l least p : Int) (hE : errE fs l least p ≠ 0) :
    Calls Try.prog 19 #[.slice A fs.length c, .agg #[.int .i64 l, .int .i64 least, .int .i64 p]] w (LinesPost w fs l least p) := by
  have b1 := below_alloc (Below.refl w.heap.size w) (.cells #[.int .i64 l, .int .i64 least, .int .i64 p] 24)
  have q1 := Blk.new w [.int .i64 l, .int .i64 least, .int .i64 p] 24
  have s0 := q1.at_ (i := 0) rfl
  have s1 := q1.at_ (i := 1) rfl
  have s2 := q1.at_ (i := 2) rfl
  have hl := laid_any _ A c fs (Kd.C_below h b1) hk l least p
  have HB := Aside0.mk b1
  have HL := Aside0.mk hl
  have HE := Aside0.mk hE
  obtain ⟨e0, he0⟩ : ∃ z, z = errE fs l least p := ⟨_, rfl⟩
  have hz : (e0 != 0) = true := by rw [he0]; simpa using hE
  have HE0 := Aside0.mk he0
  clear h hk b1 q1 hl hE he0
  go_enter Try.func19, Try.ntmps19
  go_wp2_with ((with_reducible refine HL.out.mono ?_); rintro e5 w5 hp5; unfold LaidPost at hp5; rw [if_neg HE.out] at hp5; obtain ⟨hb5, rfl⟩ := hp5; have HB5 := Aside0.mk (below_step HB.out hb5); clear hb5; rw [← HE0.out])
  refine bodyPost_ret (v := .tuple #[.slice none 0 0, .int .i64 0, .int .i64 e0]) (by simp [results, Try.results19, go_sem]) rfl ?_
  refine ⟨HB5.out, ?_⟩
  rw [if_neg HE.out, HE0.out]

set_option maxHeartbeats 8000000 in
set_option maxRecDepth 100000 in
theorem lines_good (w : World) (A : Option Addr) (c : Nat) (fs : List Fl) (h : kF.C w A fs.length fs) (hk : KOK fs) (l least p : Int) (hE : errE fs l least p = 0) :
    Calls Try.prog 19 #[.slice A fs.length c, .agg #[.int .i64 l, .int .i64 least, .int .i64 p]] w (LinesPost w fs l least p) := by
  have hE2 := hE
  unfold errE at hE2
  have hn : fs.length ≤ 128 := by
    rcases Nat.lt_or_ge 128 fs.length with h1 | h1
    · rw [if_pos h1] at hE2; omega
    · exact h1
  rw [if_neg (by omega)] at hE2
  have hsf : spOK l least p = true ∧ fs.all flOK = true := by
    by_cases h1 : spOK l least p = true ∧ fs.all flOK = true
    · exact h1
    · rw [if_neg h1] at hE2; omega
  clear hE2
  have hsp := hsf.1
  unfold spOK at hsp
  rw [decide_eq_true_eq] at hsp
  obtain ⟨most, rfl⟩ : ∃ m : Nat, l = m := ⟨l.toNat, by omega⟩
  have hm1 : 1 ≤ most := by omega
  have hm2 : most ≤ 16 := by omega
  have HSO := Aside0.mk (ordF_SOK hsf.2)
  have b1 := below_alloc (Below.refl w.heap.size w) (.cells #[.int .i64 most, .int .i64 least, .int .i64 p] 24)
  have q1 := Blk.new w [.int .i64 most, .int .i64 least, .int .i64 p] 24
  have s0 := q1.at_ (i := 0) rfl
  have s1 := q1.at_ (i := 1) rfl
  have s2 := q1.at_ (i := 2) rfl
  have hl := laid_any _ A c fs (Kd.C_below h b1) hk most least p
  have HB := Aside0.mk (And.intro b1 q1)
  have HL := Aside0.mk hl
  have HE := Aside0.mk hE
  obtain ⟨n, hn0⟩ : ∃ z, z = fs.length := ⟨_, rfl⟩
  obtain ⟨s, hs0⟩ : ∃ z, z = sF fs (ordF fs) := ⟨_, rfl⟩
  have hpost : ∀ e w', (Below w.heap.size w w' ∧ if bestF s least p n (bestK s least p n most) < 4611686018427387904 then
      ∃ (v : Value) (ls : List (Nat × Nat × Nat × Nat)), e = .returned (.tuple #[v, .int .i64 (bestF s least p n (bestK s least p n most)), .int .i64 0]) ∧
        PlanM w' w.heap.size v s (ordF fs) least p n ls ∧ ls.map (fun x => (x.2.2.1, x.2.2.2)) = planF s least p n (bestK s least p n most) 0
    else e = .returned (.tuple #[.slice none 0 0, .int .i64 0, .int .i64 13])) → LinesPost w fs most least p e w' := by
    intro e w' h
    unfold LinesPost
    rw [if_pos hE, Int.toNat_natCast, ← hs0, ← hn0]
    exact h
  have HPOST := Aside0.mk hpost
  have HN := Aside0.mk hn0
  have HSS := Aside0.mk hs0
  rw [← hn0] at hn
  clear h hk b1 q1 hl hE hsp hsf hpost
  rw [← hn0]
  rw [← hn0] at HL
  clear hn0 hs0
  go_enter Try.func19, Try.ntmps19
  go_upto_region 4 with ((with_reducible refine HL.out.mono ?_); rintro e5 w5 hp5; unfold LaidPost at hp5; rw [if_pos HE.out] at hp5; obtain ⟨hb5, bt, o, cv, ev, r1s, r2s, rfl, ht5, hr5⟩ := hp5; have H5 := Aside0.mk (And.intro ht5 (And.intro hr5 (And.intro (below_step HB.out.1 hb5) (HB.out.2.below hb5)))); clear hb5 ht5 hr5)
  have s0 := H5.out.2.2.2.at_ (i := 0) rfl
  have hle := least_any w5 _ bt o A c fs (ordF fs) least p cv ev r1s r2s H5.out.1 H5.out.2.1 (by rw [← HN.out]; exact hn) HSO.out most hm2
  have HLE := Aside0.mk hle; clear hle s1 s2
  go_upto_region 6 with ((with_reducible refine HLE.out.mono ?_); rintro e6 w6 ⟨bo, rs, rfl, hls6, hrl6⟩; have H6 := Aside0.mk (And.intro hls6 hrl6); clear hls6 hrl6)
  clear s0
  go_wp2_with fail
  go_loopw [10, 11, 31] (fun v10 _ v wr => ∃ m k : Nat, v10 = .int .i64 k ∧ v = .int .i64 m ∧ m ≤ most + 1 ∧ k ≤ most ∧ Aside0 (k = kB (bestF s least p n) m) ∧ ∃ q, wr = w6.drewN q) (fun _ _ v _ => most + 1 - (intOf v).toNat)
  case atStart => exact ⟨0, 0, rfl, rfl, by omega, by omega, ⟨rfl⟩, 0, rfl⟩
  case round =>
    obtain ⟨m, k, rfl, rfl, hm, hkm, HK, q, rfl⟩ := hrel
    have hrow : ∀ a, a < most + 1 → w6.cell? ⟨bo, a, none⟩ = some (.slice (some ⟨rs.getD a 0, 0, none⟩) (n + 1) (n + 1)) ∧ w6.cell? ⟨rs.getD a 0, 0, none⟩ = some (.int .i64 (bestF s least p n a)) := fun a ha => by
      have hrl := H6.out.2
      refine ⟨by rw [HN.out]; exact H6.out.1.row_at (by omega), ?_⟩
      have h1 := (H6.out.1.rr a (by omega)).at_ (ints_get _ (i := 0) (by rw [lrow_length]; omega))
      rw [lrow_get _ _ _ _ _ (by omega)] at h1
      rw [HSS.out, HN.out]
      exact h1
    obtain ⟨k1, k2⟩ := hrow k (by omega)
    obtain ⟨rk, hrk⟩ : ∃ z, z = rs.getD k 0 := ⟨_, rfl⟩
    obtain ⟨fk, hfk⟩ : ∃ z, z = bestF s least p n k := ⟨_, rfl⟩
    rw [← hrk] at k1 k2
    rw [← hfk] at k2
    have hrow2 := fun (h : m < most + 1) => hrow m (by omega)
    clear hrow hrk
    have HFK := Aside0.mk hfk; clear hfk
    by_cases hlt : m < most + 1
    · have hlti : (m : Int) < (most : Int) + 1 := by omega
      obtain ⟨m1, m2⟩ := hrow2 hlt
      obtain ⟨rm, hrm⟩ : ∃ z, z = rs.getD m 0 := ⟨_, rfl⟩
      obtain ⟨fm, hfm⟩ : ∃ z, z = bestF s least p n m := ⟨_, rfl⟩
      rw [← hrm] at m1 m2
      rw [← hfm] at m2
      clear hrow2 hrm
      have HFM := Aside0.mk hfm; clear hfm
      by_cases hc : fm < fk
      · have dc : decide (fm < fk) = true := decide_eq_true hc
        have HK2 : Aside0 (m = kB (bestF s least p n) (m + 1)) := ⟨by unfold kB; rw [← HK.out, ← HFM.out, ← HFK.out, if_pos hc]⟩
        go_upto_region 9 with fail
        go_quiet (fail)
        go_wp2_with fail
        go_roundw
        case rel => exact ⟨m + 1, m, rfl, by go_num, by omega, by omega, HK2, _, rfl⟩
        case measure => simp [intOf]; omega
      · have dc : decide (fm < fk) = false := decide_eq_false hc
        have HK2 : Aside0 (k = kB (bestF s least p n) (m + 1)) := ⟨by unfold kB; rw [← HK.out, ← HFM.out, ← HFK.out, if_neg hc]⟩
        go_upto_region 9 with fail
        go_quiet (fail)
        go_wp2_with fail
        go_roundw
        case rel => exact ⟨m + 1, k, rfl, by go_num, by omega, by omega, HK2, _, rfl⟩
        case measure => simp [intOf]; omega
    · have hlti : ¬ (m : Int) < (most : Int) + 1 := by omega
      clear hrow2
      have HKF : Aside0 (k = bestK s least p n most) := ⟨by rw [HK.out, show m = most + 1 by omega]; rfl⟩
      by_cases hc : fk < 4611686018427387904
      · have dc : decide (4611686018427387904 ≤ fk) = false := decide_eq_false (by omega)
        have hk0 : restO s least p n k 0 ≠ none := by
          intro e
          have h1 := HFK.out
          unfold bestF at h1
          rw [e] at h1
          rw [h1] at hc
          exact absurd hc (by decide)
        have hp0 : PlanM (w6.drewN q) w6.heap.size (.slice none 0 0) s (ordF fs) least p n [] := ⟨⟨rfl, .inl ⟨rfl, rfl⟩⟩, fun l hl => by simp at hl⟩
        have HP0 := Aside0.mk (And.intro hk0 hp0); clear hk0 hp0
        obtain ⟨wq, hwq⟩ : ∃ z, z = w6.drewN q := ⟨_, rfl⟩
        have HWQ : Aside0 (Below w6.heap.size w6 wq) := ⟨by rw [hwq]; exact bdN _ _⟩
        rw [← hwq] at HP0 ⊢
        have k1q : wq.cell? ⟨bo, k, none⟩ = some (.slice (some ⟨rk, 0, none⟩) (n + 1) (n + 1)) := by rw [hwq]; exact k1
        have k2q : wq.cell? ⟨rk, 0, none⟩ = some (.int .i64 fk) := by rw [hwq]; exact k2
        clear k1 k2 hwq
        go_wp2_with fail
        go_loopw [10, 13, 14, 15] (fun v10 v13 v14 _ wr => ∃ (kk i : Nat) (ls : List (Nat × Nat × Nat × Nat)), v10 = .int .i64 kk ∧ v14 = .int .i64 i ∧ i ≤ n ∧ kk ≤ most ∧ Aside0 (restO s least p n kk i ≠ none ∧ PlanM wr w6.heap.size v13 s (ordF fs) least p n ls ∧ ls.map (fun x => (x.2.2.1, x.2.2.2)) ++ planF s least p n kk i = planF s least p n k 0 ∧ Below w6.heap.size w6 wr ∧ ls.length + kk = k)) (fun v10 _ _ _ _ => (intOf v10).toNat)
        case atStart => exact ⟨k, 0, [], rfl, rfl, by omega, hkm, ⟨HP0.out.1, HP0.out.2, rfl, HWQ.out, by simp⟩⟩
        case round =>
          obtain ⟨kk, i, ls, rfl, rfl, hi, hkk, HX⟩ := hrel
          cases kk with
          | zero =>
            go_wp2_with fail
            refine bodyPost_ret (v := .tuple #[u13, .int .i64 fk, .int .i64 0]) (by simp [results, Try.results19, go_sem]) rfl ?_
            refine HPOST.out _ _ ⟨below_step (below_step H5.out.2.2.1 H6.out.1.b) HX.out.2.2.2.1, ?_⟩
            rw [if_pos (by rw [← HKF.out, ← HFK.out]; exact hc), ← HKF.out, ← HFK.out]
            refine ⟨u13, ls, rfl, HX.out.2.1.lower (Nat.le_trans H5.out.2.2.1.size H6.out.1.b.size), ?_⟩
            have := HX.out.2.2.1
            rw [planF, List.append_nil] at this
            exact this
          | succ k' =>
            have hcut := cut_ok HX.out.1
            have hsom := cut_some HX.out.1
            have HCUT := Aside0.mk (And.intro hcut.1 hsom)
            have hcl := hcut.2
            clear hcut hsom
            obtain ⟨cd, hcd⟩ : ∃ z, z = cutD s least p n k' i := ⟨_, rfl⟩
            rw [← hcd] at hcl HCUT
            have HCD := Aside0.mk hcd; clear hcd
            obtain ⟨wo, rfl⟩ : ∃ wo : World, wo = wr := ⟨_, rfl⟩
            have kpos : ((k' : Int) + 1 > 0) := by omega
            go_wp2_with fail
            go_loopw [15] (fun v wr => ∃ (d q2 : Nat), v = .int .i64 ((i : Int) + 1 + d) ∧ d ≤ cd ∧ wr = wo.drewN q2) (fun v _ => i + 1 + cd - (intOf v).toNat)
            case atStart => exact ⟨0, 0, by go_num, by omega, rfl⟩
            case round =>
              obtain ⟨d, q2, rfl, hd, rfl⟩ := hrel
              have ht := (H5.out.1.below H6.out.1.b).below HX.out.2.2.2.1
              have hls := H6.out.1.below HX.out.2.2.2.1
              obtain ⟨g, cap, ecv, hcap, g1, g2⟩ := ht.cost (a := i) (j := i + 1 + d) (by rw [H5.out.2.1, ← HN.out]; omega) (by rw [← HN.out]; omega)
              rw [H5.out.2.1, ← HN.out] at ecv hcap
              rw [← HN.out] at g1 g2
              rw [← HSS.out] at g2
              rw [show (crowF s least p n i).getD (i + 1 + d) 0 = pE (cO s least p i (d + 1)) by
                unfold crowF
                rw [crow_get _ _ _ _ _ _ (by omega), if_pos (by omega), show i + 1 + d - i = d + 1 by omega]] at g2
              have ct := ht.tb.t.at_ (i := 2) rfl
              have hrl := H6.out.2
              have hkl : ls.length + (k' + 1) = k := HX.out.2.2.2.2
              have cr0 := hls.row_at (a := k') (by omega)
              have cr1 := (hls.rr k' (by omega)).at_ (ints_get _ (show i + 1 + d < (lrow (sF fs (ordF fs)) least p fs.length k').length by rw [lrow_length, ← HN.out]; omega))
              rw [lrow_get _ _ _ _ _ (by rw [← HN.out]; omega), show i + 1 + d = i + d + 1 by omega, ← HSS.out, ← HN.out] at cr1
              have cs0 := hls.row_at (a := k' + 1) (by omega)
              have cs1 := (hls.rr (k' + 1) (by omega)).at_ (ints_get _ (show i < (lrow (sF fs (ordF fs)) least p fs.length (k' + 1)).length by rw [lrow_length, ← HN.out]; omega))
              rw [lrow_get _ _ _ _ _ (by rw [← HN.out]; omega), ← HSS.out, ← HN.out] at cs1
              rw [← HN.out] at cr0 cs0
              obtain ⟨ri, hri⟩ : ∃ z, z = r1s.getD i 0 := ⟨_, rfl⟩
              obtain ⟨rk0, hrk0⟩ : ∃ z, z = rs.getD k' 0 := ⟨_, rfl⟩
              obtain ⟨rk1, hrk1⟩ : ∃ z, z = rs.getD (k' + 1) 0 := ⟨_, rfl⟩
              rw [← hri] at g1 g2
              rw [← hrk0] at cr0 cr1
              rw [← hrk1] at cs0 cs1
              clear hri hrk0 hrk1
              have hso : SOK s n := by rw [HSS.out, HN.out]; exact HSO.out
              have bx := fun v (h : cO s least p i (d + 1) = some v) => cO_bd hso (by omega) (by omega) h
              have by_ := fun v (h : restO s least p n k' (i + d + 1) = some v) => restO_bd hso k' (i + d + 1) v (by omega) h
              have hx := pE_lt (b := 1374252095766528) (fun v h => ⟨(bx v h).1, by have := (bx v h).2; omega⟩) (by decide)
              have hy := pE_lt (b := 1374252095766528) (fun v h => ⟨(by_ v h).1, by have := (by_ v h).2; omega⟩) (by decide)
              have hisd : isD s least p n k' i d = true ↔ pE (cO s least p i (d + 1)) < 4611686018427387904 ∧ pE (restO s least p n k' (i + d + 1)) < 4611686018427387904 ∧ pE (cO s least p i (d + 1)) + pE (restO s least p n k' (i + d + 1)) = pE (restO s least p n (k' + 1) i) := by
                rw [hx, hy]
                unfold isD
                rw [decide_eq_true_eq]
                have hz := HX.out.1
                cases e1 : cO s least p i (d + 1) with
                | none => simp [addO]; exact fun h => hz h.symm
                | some x' =>
                  cases e2 : restO s least p n k' (i + d + 1) with
                  | none => simp [addO]; exact fun h => hz h.symm
                  | some y' =>
                    cases e3 : restO s least p n (k' + 1) i with
                    | none => exact absurd e3 hz
                    | some z' => simp [addO, pE]
              have hxb : pE (cO s least p i (d + 1)) < 4611686018427387904 → 0 ≤ pE (cO s least p i (d + 1)) ∧ pE (cO s least p i (d + 1)) ≤ 1374252095766528 := fun h => by
                cases e1 : cO s least p i (d + 1) with
                | none => exact absurd e1 (hx.1 h)
                | some x' => have := bx x' e1; show 0 ≤ x' ∧ x' ≤ _; omega
              have hyb : pE (restO s least p n k' (i + d + 1)) < 4611686018427387904 → 0 ≤ pE (restO s least p n k' (i + d + 1)) ∧ pE (restO s least p n k' (i + d + 1)) ≤ 1374252095766528 := fun h => by
                cases e1 : restO s least p n k' (i + d + 1) with
                | none => exact absurd e1 (hy.1 h)
                | some x' => have := by_ x' e1; show 0 ≤ x' ∧ x' ≤ _; omega
              obtain ⟨x, hxx⟩ : ∃ z, z = pE (cO s least p i (d + 1)) := ⟨_, rfl⟩
              obtain ⟨y, hyy⟩ : ∃ z, z = pE (restO s least p n k' (i + d + 1)) := ⟨_, rfl⟩
              obtain ⟨z, hzz⟩ : ∃ z, z = pE (restO s least p n (k' + 1) i) := ⟨_, rfl⟩
              rw [← hxx] at g2 hisd hxb
              rw [← hyy] at cr1 hisd hyb
              rw [← hzz] at cs1 hisd
              have cr1b := cr1
              rw [show i + d + 1 = i + 1 + d by omega] at cr1b
              have HT := Aside0.mk ht
              subst ecv
              clear bx by_ hx hy hxx hyy hzz ht hls hso hrl
              have q1 : k' < most := by omega
              have q2 : (0 : Int) ≤ (k' : Int) + 1 := by omega
              have q3 : k' < most + 1 := by omega
              have q4 : (0 : Int) ≤ (i : Int) + 1 + d := by omega
              have q5 : (i : Int) + 1 + d < (n : Int) + 1 := by omega
              have q6 : (i : Int) < (n : Int) + 1 := by omega
              have q7 : i + 1 + d < n + 1 := by omega
              have q8 : ((i : Int) + 1 + d).toNat = i + 1 + d := by omega
              have q10 : IntKind.i64.wrap (k' : Int) = k' := IntWalk.i64_in _ (by omega)
              have q11 : (k' : Int) < (most : Int) + 1 := by omega
              have q12 : i < n := by omega
              by_cases hx1 : x < 4611686018427387904
              · have dx : decide (4611686018427387904 ≤ x) = false := decide_eq_false (by omega)
                obtain ⟨hx2, hx3⟩ := hxb hx1
                clear hxb
                by_cases hy1 : y < 4611686018427387904
                · have dy : decide (4611686018427387904 ≤ y) = false := decide_eq_false (by omega)
                  obtain ⟨hy2, hy3⟩ := hyb hy1
                  have q9 : IntKind.i64.wrap (x + y) = x + y := IntWalk.i64_in _ (by omega)
                  clear hyb
                  by_cases hz1 : x + y = z
                  · have dz : (x + y != z) = false := by simpa using hz1
                    have hdc : d = cd := by
                      have h1 : isD s least p n k' i d = true := hisd.2 ⟨hx1, hy1, hz1⟩
                      have h2 := fdF_least (isD s least p n k' i) (n - i) 0 d (by omega) (by omega) h1
                      have h3 : cd ≤ d := by rw [HCD.out]; exact h2
                      omega
                    have HDC := Aside0.mk hdc
                    have HZ1 := Aside0.mk hz1
                    clear hz1 hisd hdc
                    go_upto_region 20 with fail
                    go_quiet (fail)
                    have hline : ∀ W, Below wo.heap.size wo W → Calls Try.prog 63 #[.pointer (some ⟨bt, 0, none⟩), .int .i64 i, .int .i64 ((i : Int) + 1 + d)] W fun e w' => ∃ g9 cap9 : Nat, e = .returned (.agg #[.int .u8 (s i).k0, .int .u8 (s i).k1, .int .u8 (s i).k2, .int .u8 (s i).k3, .slice (some ⟨g9, 0, none⟩) (d + 1) cap9, .int .i64 (massD s i (d + 1)), .int .i64 ((erowF s p n i).getD (i + (d + 1)) 0), .int .i64 ((crowF s least p n i).getD (i + (d + 1)) 0)]) ∧ w'.ownsRow w6.heap.size 3 1 (.slice (some ⟨g9, 0, none⟩) (d + 1) cap9) (d + 1) (ints (((ordF fs).drop i).take (d + 1))) ∧ Below W.heap.size W w' := by
                      intro W hW
                      have hla := line_any W _ bt o A c fs (ordF fs) least p _ ev r1s r2s (HT.out.below hW) H5.out.2.1 (by rw [← HN.out]; exact hn) HSO.out i (d + 1) (by omega) (by rw [← HN.out]; omega) (i + 1 + d) (by omega)
                      rw [show ((i + 1 + d : Nat) : Int) = (i : Int) + 1 + d by omega] at hla
                      refine hla.mono ?_
                      rintro e w' ⟨v', rfl, h1, h2⟩
                      obtain ⟨g9, cap9, rfl, _, _⟩ := h1.form (by omega)
                      refine ⟨g9, cap9, ?_, own_lower h1 (Nat.le_trans HX.out.2.2.2.1.size hW.size), h2⟩
                      rw [← HSS.out, ← HN.out]
                    have HLN := Aside0.mk hline; clear hline
                    have hlsl : ls.length ≤ 1000 := by omega
                    go_upto_region 23 with (first
                      | ((with_reducible refine (HLN.out _ (bdN _ _)).mono ?_); rintro e9 w9 ⟨g9, cap9, rfl, ho9, hb9⟩; have HO9 := Aside0.mk (And.intro ho9 (show Below wo.heap.size wo w9 from below_step (bdN _ _) hb9)); clear ho9 hb9)
                      | ((with_reducible refine gate_builtin (b := .append) (xs := #[.tmp 116, .tmp 121]) rfl ?_); at_builtin; refine wpl_line w6 rfl (.tmp 116) (.tmp 121) rfl u13 s (ordF fs) least p n ls (HX.out.2.1.below (below_alloc HO9.out.2 _)) (g9, cap9, i, d + 1) w9.heap.size rfl rfl (heap_alloc_new _ _) (pw_own_below HO9.out.1 (below_alloc (Below.refl _ _) _)) hlsl (below_step HX.out.2.2.2.1 (below_alloc HO9.out.2 _)) ?_; intro gp capp w10 hp10 hb10; have H10 := Aside0.mk (And.intro hp10 hb10); clear hp10 hb10))
                    go_wp2_with fail
                    go_roundw
                    case rel =>
                      refine ⟨k', i + 1 + d, ls ++ [(g9, cap9, i, d + 1)], by go_num, by go_num, by omega, by omega, ⟨?_, H10.out.1, ?_, H10.out.2, by rw [List.length_append]; simp; omega⟩⟩
                      · have := HCUT.out.2.2
                        rw [← HDC.out] at this
                        rw [show i + 1 + d = i + d + 1 by omega]
                        exact this
                      · rw [← HX.out.2.2.1, List.map_append, List.append_assoc]
                        congr 1
                        rw [planF, ← HCD.out, ← HDC.out, show i + 1 + d = i + d + 1 by omega]
                        rfl
                    case measure => simp [intOf]
                  · have dz : (x + y != z) = true := by simpa using hz1
                    have hdc : d < cd := by
                      rcases Nat.lt_or_ge d cd with h | h
                      · exact h
                      · have h4 : d = cd := by omega
                        have h5 := HCUT.out.1
                        rw [← h4] at h5
                        exact absurd (hisd.1 h5).2.2 hz1
                    have HZ1 := Aside0.mk hz1
                    clear hz1 hisd
                    go_upto_region 20 with fail
                    go_quiet (fail)
                    go_wp2_with fail
                    go_roundw
                    case rel => exact ⟨d + 1, _, by go_num, by omega, rfl⟩
                    case measure => simp [intOf]; omega
                · have dy : decide (4611686018427387904 ≤ y) = true := decide_eq_true (by omega)
                  have hdc : d < cd := by
                    rcases Nat.lt_or_ge d cd with h | h
                    · exact h
                    · have h4 : d = cd := by omega
                      have h5 := HCUT.out.1
                      rw [← h4] at h5
                      exact absurd (hisd.1 h5).2.1 hy1
                  clear hisd hyb
                  go_upto_region 20 with fail
                  go_quiet (fail)
                  go_wp2_with fail
                  go_roundw
                  case rel => exact ⟨d + 1, _, by go_num, by omega, rfl⟩
                  case measure => simp [intOf]; omega
              · have dx : decide (4611686018427387904 ≤ x) = true := decide_eq_true (by omega)
                have hdc : d < cd := by
                  rcases Nat.lt_or_ge d cd with h | h
                  · exact h
                  · have h4 : d = cd := by omega
                    have h5 := HCUT.out.1
                    rw [← h4] at h5
                    exact absurd (hisd.1 h5).1 hx1
                clear hisd hyb hxb
                go_upto_region 20 with fail
                go_quiet (fail)
                go_wp2_with fail
                go_roundw
                case rel => exact ⟨d + 1, _, by go_num, by omega, rfl⟩
                case measure => simp [intOf]; omega
      · have dc : decide (4611686018427387904 ≤ fk) = true := decide_eq_true (by omega)
        go_wp2_with fail
        refine bodyPost_ret (v := .tuple #[.slice none 0 0, .int .i64 0, .int .i64 13]) (by simp [results, Try.results19, go_sem]) rfl ?_
        refine HPOST.out _ _ ⟨below_step (below_step H5.out.2.2.1 H6.out.1.b) (bdN _ _), ?_⟩
        rw [if_neg (by rw [← HKF.out, ← HFK.out]; omega)]
end Go.Proofs.Ythkfahkkcjagdaa

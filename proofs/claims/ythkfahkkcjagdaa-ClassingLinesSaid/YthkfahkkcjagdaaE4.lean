/- What ClassingTotals answers: its walk. -/
import Derived.Test.YthkfahkkcjagdaaE3
import Derived.Test.YthkfahkkcjagdaaE2
namespace Go.Proofs.Ythkfahkkcjagdaa
open Go.RowKit Go.Proofs.YthkfahkkcjagdaaW.PrintWords Go.Proofs.YthkfahkkcjagdaaW.PrintMore Go.Proofs.YthkfahkkcjagdaaW.PrintLast

theorem flat_lcs_get (s : Nat → Fl) (least p : Int) (n : Nat) (ls : List (Nat × Nat × Nat × Nat)) : ∀ (j i : Nat) (l : Nat × Nat × Nat × Nat) (u : Value), ls[j]? = some l → (lcs s least p n l)[i]? = some u → (ls.flatMap (lcs s least p n))[j * 8 + i]? = some u := by
  induction ls with
  | nil => intro j i f u h; simp at h
  | cons a ls ih =>
    intro j i f u h1 h2
    have hi : i < 8 := (List.getElem?_eq_some_iff.1 h2).1
    rw [List.flatMap_cons]
    cases j with
    | zero =>
      rw [List.getElem?_cons_zero] at h1
      cases h1
      rw [Nat.zero_mul, Nat.zero_add, List.getElem?_append_left (by show i < 8; exact hi)]
      exact h2
    | succ j =>
      rw [List.getElem?_cons_succ] at h1
      rw [List.getElem?_append_right (by show 8 ≤ _; omega)]
      have e : (j + 1) * 8 + i - (lcs s least p n a).length = j * 8 + i := by show (j + 1) * 8 + i - 8 = _; omega
      rw [e]
      exact ih j i f u h1 h2
/-- A plan's row, read. -/
theorem PlanM.get {w : World} {N : Nat} {v : Value} {s : Nat → Fl} {ord : List Int} {least p : Int} {n : Nat} {ls : List (Nat × Nat × Nat × Nat)} (h : PlanM w N v s ord least p n ls) :
    ∃ (B : Option Addr) (cap : Nat), v = .slice B ls.length cap ∧ ls.length ≤ cap ∧ ∀ (j : Nat) (l : Nat × Nat × Nat × Nat), ls[j]? = some l → ∃ g : Nat, B = some ⟨g, 0, none⟩ ∧ ∀ i u, (lcs s least p n l)[i]? = some u → w.cell? ⟨g, j * 8 + i, none⟩ = some u := by
  rcases h.v.2 with ⟨rfl, h0⟩ | ⟨g, cap, cur, rfl, hg, hh, h1, h2, h3, h4⟩
  · refine ⟨none, 0, by rw [h0], by omega, fun j l hj => ?_⟩
    have := (List.getElem?_eq_some_iff.1 hj).1
    omega
  · refine ⟨_, cap, rfl, h1, fun j l hj => ⟨g, rfl, fun i u hu => ?_⟩⟩
    have e1 := flat_lcs_get s least p n ls j i l u hj hu
    have e2 := congrArg (fun x => x[j * 8 + i]?) h4
    have hj' := (List.getElem?_eq_some_iff.1 hj).1
    have hi' : i < 8 := (List.getElem?_eq_some_iff.1 hu).1
    rw [List.getElem?_take, if_pos (by omega), Array.getElem?_toList, e1] at e2
    simp [World.cell?, hh, e2]
theorem planF_len (s : Nat → Fl) (least p : Int) (n : Nat) : ∀ k i, (planF s least p n k i).length = k
  | 0, _ => rfl
  | k + 1, i => by rw [planF, List.length_cons, planF_len s least p n k _]
theorem planF_in {s : Nat → Fl} {least p : Int} {n : Nat} : ∀ (k i : Nat), i ≤ n → restO s least p n k i ≠ none → ∀ x ∈ planF s least p n k i, x.1 + x.2 ≤ n ∧ 1 ≤ x.2 ∧ cO s least p x.1 x.2 ≠ none
  | 0, _, _, _, x, hx => by simp [planF] at hx
  | k + 1, i, hi, h, x, hx => by
    have h1 := cut_ok h
    have h2 := cut_some h
    rw [planF, List.mem_cons] at hx
    rcases hx with rfl | hx
    · exact ⟨by show i + (cutD s least p n k i + 1) ≤ n; omega, by show 1 ≤ cutD s least p n k i + 1; omega, h2.1⟩
    · exact planF_in k _ (by omega) h2.2 x hx
/-- A line of a plan, read. -/
theorem PlanM.at_ {w : World} {N : Nat} {v : Value} {s : Nat → Fl} {ord : List Int} {least p : Int} {n : Nat} {ls : List (Nat × Nat × Nat × Nat)} (h : PlanM w N v s ord least p n ls) :
    ∃ (B : Option Addr) (cap : Nat), v = .slice B ls.length cap ∧ ls.length ≤ cap ∧ ∀ (j : Int), 0 ≤ j → j < ls.length → ∃ (ad : Addr) (l : Nat × Nat × Nat × Nat), B = some ad ∧ ls[j.toNat]? = some l ∧
      w.cell? (ad.add (j.toNat * 8)) = some (.int .u8 (s l.2.2.1).k0) ∧ w.cell? ⟨(ad.add (j.toNat * 8)).block, (ad.add (j.toNat * 8)).off + 1, none⟩ = some (.int .u8 (s l.2.2.1).k1) ∧ w.cell? ⟨(ad.add (j.toNat * 8)).block, (ad.add (j.toNat * 8)).off + 2, none⟩ = some (.int .u8 (s l.2.2.1).k2) ∧ w.cell? ⟨(ad.add (j.toNat * 8)).block, (ad.add (j.toNat * 8)).off + 3, none⟩ = some (.int .u8 (s l.2.2.1).k3) ∧
      w.cell? ⟨(ad.add (j.toNat * 8)).block, (ad.add (j.toNat * 8)).off + 4, none⟩ = some (.slice (some ⟨l.1, 0, none⟩) l.2.2.2 l.2.1) ∧ w.cell? ⟨(ad.add (j.toNat * 8)).block, (ad.add (j.toNat * 8)).off + 5, none⟩ = some (.int .i64 (massD s l.2.2.1 l.2.2.2)) ∧
      w.cell? ⟨(ad.add (j.toNat * 8)).block, (ad.add (j.toNat * 8)).off + 6, none⟩ = some (.int .i64 ((erowF s p n l.2.2.1).getD (l.2.2.1 + l.2.2.2) 0)) ∧ w.cell? ⟨(ad.add (j.toNat * 8)).block, (ad.add (j.toNat * 8)).off + 7, none⟩ = some (.int .i64 ((crowF s least p n l.2.2.1).getD (l.2.2.1 + l.2.2.2) 0)) := by
  obtain ⟨B, cap, e, hc, hg⟩ := h.get
  refine ⟨B, cap, e, hc, fun j h0 h1 => ?_⟩
  obtain ⟨l, hl⟩ : ∃ l, ls[j.toNat]? = some l := ⟨_, List.getElem?_eq_getElem (by omega)⟩
  obtain ⟨g, rfl, hu⟩ := hg _ _ hl
  refine ⟨⟨g, 0, none⟩, l, rfl, hl, ?_⟩
  have key : ∀ i u, (lcs s least p n l)[i]? = some u → w.cell? ⟨((⟨g, 0, none⟩ : Addr).add (j.toNat * 8)).block, ((⟨g, 0, none⟩ : Addr).add (j.toNat * 8)).off + i, none⟩ = some u := by
    intro i u h
    have h2 := hu i u h
    rw [add_plain]
    simpa using h2
  refine ⟨?_, key 1 _ rfl, key 2 _ rfl, key 3 _ rfl, key 4 _ rfl, key 5 _ rfl, key 6 _ rfl, key 7 _ rfl⟩
  have h0 := key 0 _ rfl
  rw [add_plain] at h0 ⊢
  exact h0
/-- What Lines answers, with its plan. -/
theorem lines_full (w : World) (A : Option Addr) (c : Nat) (fs : List Fl) (h : kF.C w A fs.length fs) (hk : KOK fs) (l least p : Int) :
    Calls Try.prog 19 #[.slice A fs.length c, .agg #[.int .i64 l, .int .i64 least, .int .i64 p]] w fun e w' => ∃ (v : Value) (k x : Int), e = .returned (.tuple #[v, .int .i64 k, .int .i64 x]) ∧ Below w.heap.size w w' ∧
      (x = 0 → errE fs l least p = 0 ∧ ∃ (K : Nat) (ls : List (Nat × Nat × Nat × Nat)), restO (sF fs (ordF fs)) least p fs.length K 0 ≠ none ∧ (k = pE (restO (sF fs (ordF fs)) least p fs.length K 0) ∧ K ≤ l.toNat) ∧ PlanM w' w.heap.size v (sF fs (ordF fs)) (ordF fs) least p fs.length ls ∧ ls.map (fun x => (x.2.2.1, x.2.2.2)) = planF (sF fs (ordF fs)) least p fs.length K 0) := by
  refine (lines_any w A c fs h hk l least p).mono ?_
  rintro e w' ⟨h1, h2⟩
  by_cases hE : errE fs l least p = 0
  · rw [if_pos hE] at h2
    by_cases hb : bestF (sF fs (ordF fs)) least p fs.length (bestK (sF fs (ordF fs)) least p fs.length l.toNat) < 4611686018427387904
    · rw [if_pos hb] at h2
      obtain ⟨v, ls, rfl, h3, h4⟩ := h2
      refine ⟨v, _, 0, rfl, h1, fun _ => ⟨hE, bestK (sF fs (ordF fs)) least p fs.length l.toNat, ls, fun e => ?_, ⟨rfl, ?_⟩, h3, h4⟩⟩
      · unfold bestF at hb
        rw [e] at hb
        exact absurd hb (by decide)
      · unfold bestK
        rcases kB_lt (bestF (sF fs (ordF fs)) least p fs.length) (l.toNat + 1) with h5 | h5 <;> omega
    · rw [if_neg hb] at h2
      exact ⟨_, 0, 13, h2, h1, fun h => absurd h (by decide)⟩
  · rw [if_neg hE] at h2
    exact ⟨_, 0, _, h2, h1, fun h => absurd h hE⟩
theorem errE_all {fs : List Fl} {l least p : Int} (h : errE fs l least p = 0) : fs.length ≤ 128 ∧ fs.all flOK = true := by
  unfold errE at h
  split at h
  · omega
  · split at h
    · rename_i h1 h2
      exact ⟨by omega, h2.2⟩
    · omega
def lineW (K : Fl) (s : Nat → Fl) (x : Nat × Nat × Nat × Nat) : Int := if sameK K (s x.2.2.1) = true then massD s x.2.2.1 x.2.2.2 else 0
def lineM (s : Nat → Fl) (x : Nat × Nat × Nat × Nat) : Int := massD s x.2.2.1 x.2.2.2
theorem take_sum (f : (Nat × Nat × Nat × Nat) → Int) (ls : List (Nat × Nat × Nat × Nat)) (i : Nat) (l : Nat × Nat × Nat × Nat) (h : ls[i]? = some l) : ((ls.take (i + 1)).map f).sum = ((ls.take i).map f).sum + f l := by
  have hi := (List.getElem?_eq_some_iff.1 h).1
  have e := (List.getElem?_eq_some_iff.1 h).2
  rw [List.take_succ_eq_append_getElem hi, List.map_append, List.sum_append, e]
  simp

set_option maxHeartbeats 8000000 in
set_option maxRecDepth 100000 in
theorem totals_any (w : World) (A : Option Addr) (n c : Nat) (fs : List Fl) (hn : fs.length = n) (h : kF.C w A n fs) (hk : KOK fs) (l least p k0 k1 k2 k3 : Int) :
    Calls Try.prog 6 #[.slice A n c, .agg #[.int .i64 l, .int .i64 least, .int .i64 p], .agg #[.int .u8 k0, .int .u8 k1, .int .u8 k2, .int .u8 k3]] w fun e w' => e = .returned (.bool true) ∧ Below w.heap.size w w' := by
  have hmax := Kd.C_max h
  have b1 := below_alloc (Below.refl w.heap.size w) (.cells #[.int .i64 l, .int .i64 least, .int .i64 p] 24)
  have b2 := below_alloc b1 (.cells #[.int .u8 k0, .int .u8 k1, .int .u8 k2, .int .u8 k3] 34)
  have q1 := (Blk.new w [.int .i64 l, .int .i64 least, .int .i64 p] 24).alloc (.cells #[.int .u8 k0, .int .u8 k1, .int .u8 k2, .int .u8 k3] 34)
  have q2 := Blk.new (w.alloc (.cells #[.int .i64 l, .int .i64 least, .int .i64 p] 24)) [.int .u8 k0, .int .u8 k1, .int .u8 k2, .int .u8 k3] 34
  have e1 : (w.alloc (.cells #[.int .i64 l, .int .i64 least, .int .i64 p] 24)).heap.size = w.heap.size + 1 := by simp
  rw [e1] at q2
  have s0 := q1.at_ (i := 0) rfl
  have s1 := q1.at_ (i := 1) rfl
  have s2 := q1.at_ (i := 2) rfl
  have HFW := Aside0.mk (fun W => few_any W A n c hmax)
  have HAL := Aside0.mk alive_any
  have hli := lines_full _ A c fs (by rw [hn]; exact Kd.C_below h b2) hk l least p
  rw [hn] at hli
  have HLI := Aside0.mk hli
  have H2 := Aside0.mk (And.intro b2 (And.intro q1 q2))
  have HC := Aside0.mk (And.intro h (And.intro hk hn))
  clear h hk hn b1 b2 q1 q2 e1 hli
  by_cases h140 : (n : Int) ≤ 140
  · have hd : decide ((n : Int) ≤ 140) = true := decide_eq_true h140
    rw [hd] at HFW
    go_enter Try.func6, Try.ntmps6
    go_upto_region 4 with (first | ((with_reducible refine (HFW.out _).mono ?_); rintro e5 w5 ⟨rfl, rfl⟩) | ((with_reducible refine HLI.out.mono ?_); rintro e5 w5 ⟨v5, k5, x5, rfl, hb5, h51⟩; have H5 := Aside0.mk (And.intro (below_step H2.out.1 hb5) (And.intro (H2.out.2.2.below hb5) h51)); clear hb5 h51))
    clear s0 s1 s2
    by_cases hx : x5 = 0
    · subst hx
      obtain ⟨hE, K0, ls, hr, ⟨_, hK0⟩, hp, hm⟩ := H5.out.2.2 rfl
      obtain ⟨B, cap, hv, hcap, hget⟩ := hp.at_
      rw [← HC.out.2.2] at hr hm
      have hall := errE_all hE
      have hn128 : n ≤ 128 := by rw [← HC.out.2.2]; exact hall.1
      have hl16 : ls.length ≤ 16 := by
        have e1 := congrArg List.length hm
        rw [List.length_map, planF_len] at e1
        have := (errE_spec hE).1
        omega
      have hSO := ordF_SOK hall.2
      have hin : ∀ l ∈ ls, 0 ≤ massD (sF fs (ordF fs)) l.2.2.1 l.2.2.2 ∧ massD (sF fs (ordF fs)) l.2.2.1 l.2.2.2 ≤ 137438953472 := by
        intro l hl
        have h1 : (l.2.2.1, l.2.2.2) ∈ planF (sF fs (ordF fs)) least p fs.length K0 0 := by
          rw [← hm]; exact List.mem_map.2 ⟨l, hl, rfl⟩
        have h2 := planF_in K0 0 (Nat.zero_le _) hr _ h1
        have h3 := massD_bd hSO l.2.2.1 l.2.2.2 h2.1
        have h4 := h2.1
        dsimp only at h4
        have h5 := hall.1
        omega
      have htk := totals_kind ⟨k0, k1, k2, k3, 0, 0⟩ hr
      have hta := totals_all hr
      rw [← hm, List.map_map] at htk hta
      have HP := Aside0.mk (And.intro htk (And.intro hta (And.intro hget hin)))
      have HALL := Aside0.mk hall.2
      have hb5 := H5.out.1
      have hq5 := H5.out.2.1
      clear hE hr hp hm hget hall hK0 hSO hin htk hta
      subst hv
      obtain ⟨s, hs⟩ : ∃ z, z = sF fs (ordF fs) := ⟨_, rfl⟩
      obtain ⟨m, hm⟩ : ∃ z, z = ls.length := ⟨_, rfl⟩
      rw [← hm] at hcap hl16 ⊢
      rw [← hs] at HP
      have HML := Aside0.mk hm; clear hm
      have c0 := hq5.at_ (i := 0) rfl
      have c1 := hq5.at_ (i := 1) rfl
      have c2 := hq5.at_ (i := 2) rfl
      have c3 := hq5.at_ (i := 3) rfl
      have HFS := Aside0.mk (Kd.C_below HC.out.1 hb5)
      have HB5 := Aside0.mk hb5
      have HSS := Aside0.mk hs
      clear hb5 hq5 hs
      go_wp2_with fail
      go_loopw [10, 12, 13] (fun v10 v12 v13 wr => ∃ (i a t : Int), v10 = .int .i64 a ∧ v12 = .int .i64 t ∧ v13 = .int .i64 i ∧ 0 ≤ i ∧ i ≤ n ∧ (0 ≤ a ∧ a ≤ i * 1073741824) ∧ (0 ≤ t ∧ t ≤ i * 1073741824) ∧ Aside0 (a = sumN (fun k => kw ⟨k0, k1, k2, k3, 0, 0⟩ (rdF fs k)) i.toNat ∧ t = sumN (fun k => (rdF fs k).gr) i.toNat) ∧ ∃ q, wr = w5.drewN q) (fun _ _ v13 _ => n - (intOf v13).toNat)
      case atStart => exact ⟨0, 0, 0, rfl, rfl, rfl, by omega, by omega, by omega, by omega, ⟨rfl, rfl⟩, 0, rfl⟩
      case round =>
        obtain ⟨i, a, t, rfl, rfl, rfl, hi0, hi, ⟨ha0, ha1⟩, ⟨ht0, ht1⟩, HX, q, rfl⟩ := hrel
        by_cases hlt : i < n
        · obtain ⟨ad, e1, g0, g1, g2, g3, g4, g5⟩ := at_F HFS.out i hi0 hlt
          subst e1
          have hfl := all_rd HALL.out (x := i) hi0 (by rw [HC.out.2.2]; exact hlt)
          unfold flOK at hfl
          rw [decide_eq_true_eq] at hfl
          obtain ⟨_, _, hgr1, hgr2⟩ := hfl
          obtain ⟨f, hf⟩ : ∃ z, z = rdF fs i := ⟨_, rfl⟩
          rw [← hf] at g0 g1 g2 g3 g4 g5 hgr1 hgr2
          have hf2 : f = rdF fs i.toNat := by rw [hf, Int.toNat_of_nonneg hi0]
          have HF := Aside0.mk hf2; clear hf hf2
          have HN : Aside0 (a + kw ⟨k0, k1, k2, k3, 0, 0⟩ f = sumN (fun k => kw ⟨k0, k1, k2, k3, 0, 0⟩ (rdF fs k)) (i + 1).toNat ∧ t + f.gr = sumN (fun k => (rdF fs k).gr) (i + 1).toNat) := ⟨by
            rw [show (i + 1).toNat = i.toNat + 1 by omega]
            show _ = sumN _ i.toNat + kw _ (rdF fs i.toNat)
            rw [← HX.out.1, ← HF.out], by
            rw [show (i + 1).toNat = i.toNat + 1 by omega]
            show _ = sumN _ i.toNat + (rdF fs i.toNat).gr
            rw [← HX.out.2, ← HF.out]⟩
          clear HX HF
          obtain ⟨x0, x1, x2, x3, x4, x5⟩ := f
          dsimp only at g0 g1 g2 g3 g4 g5 hgr1 hgr2
          by_cases hk : x0 = k0 ∧ x1 = k1 ∧ x2 = k2 ∧ x3 = k3
          · have ke : ∀ W, (Op.equalIn 10000 34 (.agg #[.int .u8 x0, .int .u8 x1, .int .u8 x2, .int .u8 x3]) (.agg #[.int .u8 k0, .int .u8 k1, .int .u8 k2, .int .u8 k3])).run Try.prog W = .ok true W := fun W => by rw [kind_eql, decide_eq_true hk]
            have HKW : Aside0 (kw ⟨k0, k1, k2, k3, 0, 0⟩ ⟨x0, x1, x2, x3, x4, x5⟩ = x5) := ⟨by
              unfold kw sameK
              rw [if_pos]
              exact decide_eq_true (by dsimp only; omega)⟩
            clear hk
            go_upto_region 9 with fail
            go_quiet (fail)
            go_wp2_with fail
            go_roundw
            case rel => exact ⟨i + 1, a + x5, t + x5, by go_num, by go_num, by go_num, by omega, by omega, by omega, by omega, ⟨by rw [← HN.out.1, HKW.out], HN.out.2⟩, _, rfl⟩
            case measure => simp [intOf]; omega
          · have ke : ∀ W, (Op.equalIn 10000 34 (.agg #[.int .u8 x0, .int .u8 x1, .int .u8 x2, .int .u8 x3]) (.agg #[.int .u8 k0, .int .u8 k1, .int .u8 k2, .int .u8 k3])).run Try.prog W = .ok false W := fun W => by rw [kind_eql, decide_eq_false hk]
            have HKW : Aside0 (kw ⟨k0, k1, k2, k3, 0, 0⟩ ⟨x0, x1, x2, x3, x4, x5⟩ = 0) := ⟨by
              unfold kw sameK
              rw [if_neg]
              intro h
              have h2 := of_decide_eq_true h
              dsimp only at h2
              exact hk (by omega)⟩
            clear hk
            go_upto_region 9 with fail
            go_quiet (fail)
            go_wp2_with fail
            go_roundw
            case rel => exact ⟨i + 1, a, t + x5, by go_num, by go_num, by go_num, by omega, by omega, by omega, by omega, ⟨by rw [← HN.out.1, HKW.out, Int.add_zero], HN.out.2⟩, _, rfl⟩
            case measure => simp [intOf]; omega
        · have hin : i = n := by omega
          have HTOT : Aside0 (a = ((ls.map (lineW ⟨k0, k1, k2, k3, 0, 0⟩ s))).sum ∧ t = (ls.map (lineM s)).sum) := ⟨by
            rw [HX.out.1, hin, Int.toNat_natCast, ← HC.out.2.2, ← HP.out.1]
            rfl, by
            rw [HX.out.2, hin, Int.toNat_natCast, ← HC.out.2.2, ← HP.out.2.1]
            rfl⟩
          have hta : t ≤ 137438953472 := by omega
          clear hin HX ht1
          have HTA := Aside0.mk (And.intro ha0 (And.intro ha1 hta)); clear ha0 ha1
          go_wp2_with fail
          go_loopw [11, 12, 14] (fun v11 v12 v14 wr => ∃ (j o r : Int), v11 = .int .i64 o ∧ v12 = .int .i64 r ∧ v14 = .int .i64 j ∧ 0 ≤ j ∧ j ≤ m ∧ (0 ≤ o ∧ o ≤ j * 137438953472) ∧ (t - j * 137438953472 ≤ r ∧ r ≤ t) ∧ Aside0 (o = ((ls.take j.toNat).map (lineW ⟨k0, k1, k2, k3, 0, 0⟩ s)).sum ∧ r = t - ((ls.take j.toNat).map (lineM s)).sum) ∧ ∃ q, wr = w5.drewN q) (fun _ _ v14 _ => m - (intOf v14).toNat)
          case atStart => exact ⟨0, 0, t, rfl, rfl, rfl, by omega, by omega, by omega, by omega, ⟨by simp, by simp⟩, q, rfl⟩
          case round =>
            obtain ⟨j, o, r, rfl, rfl, rfl, hj0, hj, ⟨ho0, ho1⟩, ⟨hr0, hr1⟩, HX, q, rfl⟩ := hrel
            by_cases hjt : j < m
            · obtain ⟨ad, l, e1, hl, g0, g1, g2, g3, g4, g5, _⟩ := HP.out.2.2.1 j hj0 (by rw [← HML.out]; exact hjt)
              subst e1
              obtain ⟨hg1, hg2⟩ := HP.out.2.2.2 l (List.mem_of_getElem? hl)
              have hw := take_sum (lineW ⟨k0, k1, k2, k3, 0, 0⟩ s) ls j.toNat l hl
              have hm2 := take_sum (lineM s) ls j.toNat l hl
              rw [← HX.out.1] at hw
              have HL2 := Aside0.mk (And.intro hw (And.intro hm2 HX.out.2)); clear hw hm2 hl HX
              have hlw : Aside0 (lineW ⟨k0, k1, k2, k3, 0, 0⟩ s l = kw ⟨k0, k1, k2, k3, 0, 0⟩ ⟨(s l.2.2.1).k0, (s l.2.2.1).k1, (s l.2.2.1).k2, (s l.2.2.1).k3, 0, massD s l.2.2.1 l.2.2.2⟩) := ⟨rfl⟩
              have hlm : Aside0 (lineM s l = massD s l.2.2.1 l.2.2.2) := ⟨rfl⟩
              obtain ⟨x0, hx0⟩ : ∃ z, z = (s l.2.2.1).k0 := ⟨_, rfl⟩
              obtain ⟨x1, hx1⟩ : ∃ z, z = (s l.2.2.1).k1 := ⟨_, rfl⟩
              obtain ⟨x2, hx2⟩ : ∃ z, z = (s l.2.2.1).k2 := ⟨_, rfl⟩
              obtain ⟨x3, hx3⟩ : ∃ z, z = (s l.2.2.1).k3 := ⟨_, rfl⟩
              obtain ⟨x5, hx5⟩ : ∃ z, z = massD s l.2.2.1 l.2.2.2 := ⟨_, rfl⟩
              rw [← hx0, ← hx1, ← hx2, ← hx3, ← hx5] at hlw
              rw [← hx0] at g0
              rw [← hx1] at g1
              rw [← hx2] at g2
              rw [← hx3] at g3
              rw [← hx5] at g5 hg1 hg2 hlm
              clear hx0 hx1 hx2 hx3 hx5 g4
              have hjm : j * 137438953472 + x5 ≤ (j + 1) * 137438953472 := by omega
              have hjc : j ≤ 16 := by omega
              by_cases hk : x0 = k0 ∧ x1 = k1 ∧ x2 = k2 ∧ x3 = k3
              · have ke : ∀ W, (Op.equalIn 10000 34 (.agg #[.int .u8 x0, .int .u8 x1, .int .u8 x2, .int .u8 x3]) (.agg #[.int .u8 k0, .int .u8 k1, .int .u8 k2, .int .u8 k3])).run Try.prog W = .ok true W := fun W => by rw [kind_eql, decide_eq_true hk]
                have HKW : Aside0 (lineW ⟨k0, k1, k2, k3, 0, 0⟩ s l = x5) := ⟨by
                  rw [hlw.out]
                  unfold kw sameK
                  rw [if_pos]
                  exact decide_eq_true (by dsimp only; omega)⟩
                clear hk hlw
                go_upto_region 15 with fail
                go_quiet (fail)
                go_wp2_with fail
                go_roundw
                case rel => exact ⟨j + 1, o + x5, r - x5, by go_num, by go_num, by go_num, by omega, by omega, by omega, by omega, ⟨by rw [show (j + 1).toNat = j.toNat + 1 by omega, HL2.out.1, HKW.out], by rw [show (j + 1).toNat = j.toNat + 1 by omega, HL2.out.2.1, HL2.out.2.2, hlm.out]; omega⟩, _, rfl⟩
                case measure => simp [intOf]; omega
              · have ke : ∀ W, (Op.equalIn 10000 34 (.agg #[.int .u8 x0, .int .u8 x1, .int .u8 x2, .int .u8 x3]) (.agg #[.int .u8 k0, .int .u8 k1, .int .u8 k2, .int .u8 k3])).run Try.prog W = .ok false W := fun W => by rw [kind_eql, decide_eq_false hk]
                have HKW : Aside0 (lineW ⟨k0, k1, k2, k3, 0, 0⟩ s l = 0) := ⟨by
                  rw [hlw.out]
                  unfold kw sameK
                  rw [if_neg]
                  intro h
                  have h2 := of_decide_eq_true h
                  dsimp only at h2
                  exact hk (by omega)⟩
                clear hk hlw
                go_upto_region 15 with fail
                go_quiet (fail)
                go_wp2_with fail
                go_roundw
                case rel => exact ⟨j + 1, o, r - x5, by go_num, by go_num, by go_num, by omega, by omega, by omega, by omega, ⟨by rw [show (j + 1).toNat = j.toNat + 1 by omega, HL2.out.1, HKW.out, Int.add_zero], by rw [show (j + 1).toNat = j.toNat + 1 by omega, HL2.out.2.1, HL2.out.2.2, hlm.out]; omega⟩, _, rfl⟩
                case measure => simp [intOf]; omega
            · have hlen : ls.take j.toNat = ls := List.take_of_length_le (by rw [← HML.out]; omega)
              have hoa : o = a := by rw [HX.out.1, hlen, HTOT.out.1]
              have hr0' : r = 0 := by rw [HX.out.2, hlen, HTOT.out.2]; omega
              subst hoa
              subst hr0'
              clear hlen HX
              go_wp2_with ((with_reducible refine (HAL.out _).mono ?_); rintro e6 w6 ⟨rfl, hb6⟩; have HB6 := Aside0.mk (below_step HB5.out (below_step (bdN _ _) hb6)); clear hb6)
              go_ret
              exact ⟨rfl, HB6.out⟩
    · have hz : (x5 != 0) = true := by simpa using hx
      go_wp2_with ((with_reducible refine (HAL.out _).mono ?_); rintro e6 w6 ⟨rfl, hb6⟩; have HB6 := Aside0.mk (below_step H5.out.1 hb6); clear hb6)
      go_ret
      exact ⟨rfl, HB6.out⟩
  · have hd : decide ((n : Int) ≤ 140) = false := decide_eq_false h140
    rw [hd] at HFW
    go_enter Try.func6, Try.ntmps6
    go_wp2_with (first | ((with_reducible refine (HFW.out _).mono ?_); rintro e5 w5 ⟨rfl, rfl⟩) | ((with_reducible refine (HAL.out _).mono ?_); rintro e6 w6 ⟨rfl, hb6⟩; have HB6 := Aside0.mk (below_step H2.out.1 hb6); clear hb6))
    go_ret
    exact ⟨rfl, HB6.out⟩
end Go.Proofs.Ythkfahkkcjagdaa

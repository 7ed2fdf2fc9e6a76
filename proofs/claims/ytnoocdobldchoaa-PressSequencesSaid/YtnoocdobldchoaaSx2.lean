/- The plain laws of the reference's Dumps, Order, Makespan, Sequence and Critical: they answer as the program's do. -/
import Derived.Test.YtnoocdobldchoaaSx1
import Derived.Test.YtnoocdobldchoaaCr1
namespace Go.Proofs.Ytnoocdobldchoaa
open Go.RowKit Go.Proofs.YtnoocdobldchoaaW.PrintWords Go.Proofs.YtnoocdobldchoaaW.PrintMore Go.Proofs.YtnoocdobldchoaaW.PrintLast

theorem w64 {n : Int} (h : -9223372036854775808 ≤ n ∧ n ≤ 9223372036854775807) : wrap64 n = n := by rw [← i64_w]; exact IntWalk.i64_in _ h
theorem badD_iff (x : Int × Int) : badD x = true ↔ x.1 < 0 ∨ x.1 > 1073741824 ∨ x.2 < 0 ∨ x.2 > 1073741824 := by
  unfold badD okMin
  simp only [Bool.or_eq_true, Bool.not_eq_true', decide_eq_false_iff_not]
  omega
theorem badD_ite (x : Int × Int) (r : Option Int) : (if x.1 < 0 then some 2 else if x.1 > 1073741824 then some 2 else if x.2 < 0 then some 2 else if x.2 > 1073741824 then some 2 else r) = if badD x = true then some 2 else r := by
  have hb := badD_iff x
  by_cases h : badD x = true
  · rw [if_pos h]
    have := hb.1 h
    by_cases a : x.1 < 0
    · rw [if_pos a]
    rw [if_neg a]
    by_cases b : x.1 > 1073741824
    · rw [if_pos b]
    rw [if_neg b]
    by_cases c : x.2 < 0
    · rw [if_pos c]
    rw [if_neg c, if_pos (by omega)]
  · rw [if_neg h]
    have : ¬ (x.1 < 0 ∨ x.1 > 1073741824 ∨ x.2 < 0 ∨ x.2 > 1073741824) := fun e => h (hb.2 e)
    rw [if_neg (by omega), if_neg (by omega), if_neg (by omega), if_neg (by omega)]
theorem rDumps_l0 (ds : List (Int × Int)) (hl : ds.length ≤ 64) : ∀ (n k i : Nat), i + n = ds.length → n < k → ref8Dumps.l0 k ds i = some (if (ds.drop i).any badD = true then 2 else 0) := by
  intro n
  induction n with
  | zero =>
    intro k i hi hk
    obtain ⟨k, rfl⟩ : ∃ z, k = z + 1 := ⟨k - 1, by omega⟩
    simp only [ref8Dumps.l0]
    rw [if_neg (by omega), List.drop_eq_nil_of_le (by omega)]
    rfl
  | succ n ih =>
    intro k i hi hk
    obtain ⟨k, rfl⟩ : ∃ z, k = z + 1 := ⟨k - 1, by omega⟩
    have hd := dropP ds (0, 0) (i : Int) (by omega) (by omega)
    rw [show ((i : Int) + 1).toNat = i + 1 by omega] at hd
    have hd2 : ds.drop i = rdP ds (i : Int) :: ds.drop (i + 1) := hd
    have h2 := ih k (i + 1) (by omega) (by omega)
    simp only [ref8Dumps.l0]
    rw [if_pos (show (i : Int) < ds.length by omega), if_pos (show (0 : Int) ≤ i by omega), w64 (by omega), show ((i : Int) + 1) = ((i + 1 : Nat) : Int) by omega, h2, badD_ite, hd2, List.any_cons]
    by_cases hb : badD (rdP ds i) = true
    · rw [if_pos hb, hb, Bool.true_or, if_pos rfl]
    · rw [if_neg hb, Bool.eq_false_iff.2 hb, Bool.false_or]
theorem rDumps_f (ds : List (Int × Int)) {k : Nat} (hk : 70 ≤ k) : ref8Dumps.f k ds = some (dumpsE ds) := by
  unfold ref8Dumps.f dumpsE
  by_cases h : 64 < ds.length
  · rw [if_pos (by omega), if_pos h]
  · rw [if_neg (by omega), if_neg h]
    exact rDumps_l0 ds (by omega) ds.length k 0 (by omega) (by omega)
theorem rOrder_l0 (ds : List (Int × Int)) (o : List Int) (hl : o.length = ds.length) (h64 : ds.length ≤ 64) : ∀ (n k i : Nat) (G : List Bool), i + n = o.length → n < k → SeenOK o ds.length i G → ref8Order.l0 k ds o G i = some (if o.Perm (upto ds.length) then 0 else 2) := by
  intro n
  induction n with
  | zero =>
    intro k i G hi hk hS
    obtain ⟨k, rfl⟩ : ∃ z, k = z + 1 := ⟨k - 1, by omega⟩
    simp only [ref8Order.l0]
    obtain ⟨_, q1, q2, _⟩ := hS
    rw [show i = o.length by omega, List.take_length] at q1 q2
    rw [if_neg (by omega), if_pos (perm_upto _ _ q1 q2 hl)]
  | succ n ih =>
    intro k i G hi hk hS
    obtain ⟨k, rfl⟩ : ∃ z, k = z + 1 := ⟨k - 1, by omega⟩
    have hnp := fun hx => not_perm_of (l := o) (n := ds.length) (i := (i : Int)) (G := G) hS (by omega) (by omega) hx
    have hst := fun hx hg => SeenOK.step (l := o) (n := ds.length) (i := (i : Int)) (G := G) hS (by omega) (by omega) hx hg
    rw [show ((i : Int) + 1).toNat = i + 1 by omega] at hst
    simp only [ref8Order.l0]
    rw [if_pos (show (i : Int) < o.length by omega), if_pos (show (0 : Int) ≤ i by omega)]
    by_cases h1 : rd o i < 0
    · rw [if_pos h1, if_neg (hnp (.inl h1))]
    rw [if_neg h1]
    by_cases h2 : rd o i ≥ (ds.length : Int)
    · rw [if_pos h2, if_neg (hnp (.inr (.inl h2)))]
    rw [if_neg h2, if_pos (by omega), if_pos (by have := hS.1; omega)]
    cases hg : G.getD (rd o i).toNat false with
    | true =>
      rw [if_pos (show rdOf false G (rd o i) = true from hg), if_neg (hnp (.inr (.inr ⟨by omega, by omega, hg⟩)))]
    | false =>
      rw [if_neg (show ¬ rdOf false G (rd o i) = true by unfold rdOf; rw [hg]; decide), w64 (by omega), show ((i : Int) + 1) = ((i + 1 : Nat) : Int) by omega]
      exact ih k (i + 1) _ (by omega) (by omega) (hst ⟨by omega, by omega⟩ hg)
theorem rOrder_f (ds : List (Int × Int)) (o : List Int) {k : Nat} (hk : 70 ≤ k) : ref8Order.f k ds o = some (orderedE ds o) := by
  unfold ref8Order.f orderedE
  rw [rDumps_f ds hk, Option.bind_some]
  by_cases h : dumpsE ds = 0
  · rw [if_pos h]
    have hR : (if dumpsE ds ≠ 0 then dumpsE ds else if o.Perm (upto ds.length) then 0 else 2) = if o.Perm (upto ds.length) then 0 else 2 := if_neg (by simpa using h)
    rw [hR]
    have h64 := (DOK.of_E h).1
    by_cases hl : o.length = ds.length
    · rw [if_pos (by omega), if_pos (by omega), if_pos (by omega)]
      refine rOrder_l0 ds o hl h64 o.length k 0 _ (by omega) (by omega) ⟨by simp, by simp, by simp, fun x hx => ?_⟩
      rw [List.getD_eq_getElem?_getD, List.getElem?_replicate]
      split <;> simp
    · rw [if_neg (by omega), if_neg (fun hp => hl (by rw [hp.length_eq, upto_length]))]
  · rw [if_neg h, if_pos h]
theorem mx_max (a b : Int) : mx a b = max a b := by unfold mx; split <;> omega
theorem rd_mem {o : List Int} {i : Nat} (h : i < o.length) : rd o (i : Int) ∈ o := by
  unfold rd
  rw [Int.toNat_natCast, List.getD_eq_getElem?_getD, List.getElem?_eq_getElem h]
  exact List.getElem_mem _
theorem rMake_l0 (ds : List (Int × Int)) (o : List Int) (hd : DOK ds) (hr : ∀ x ∈ o, 0 ≤ x ∧ x < ds.length) (h64 : o.length ≤ 64) : ∀ (n k i : Nat) (p s : Int), i + n = o.length → n < k → 0 ≤ p → p ≤ i * 1073741824 → 0 ≤ s → s ≤ i * 2147483648 → ref8Makespan.l0 k ds o p s i = some (((o.drop i).foldl (spStep ds) (p, s)).2, 0) := by
  intro n
  induction n with
  | zero =>
    intro k i p s hi hk _ _ _ _
    obtain ⟨k, rfl⟩ : ∃ z, k = z + 1 := ⟨k - 1, by omega⟩
    simp only [ref8Makespan.l0]
    rw [if_neg (by omega), List.drop_eq_nil_of_le (by omega)]
    rfl
  | succ n ih =>
    intro k i p s hi hk p0 p1 s0 s1
    obtain ⟨k, rfl⟩ : ∃ z, k = z + 1 := ⟨k - 1, by omega⟩
    have hx := hr _ (rd_mem (o := o) (i := i) (by omega))
    have hb := hd.at_ _ hx.1 hx.2
    have hdr := drop_rd o (i : Int) (by omega) (by omega)
    rw [show ((i : Int) + 1).toNat = i + 1 by omega, Int.toNat_natCast] at hdr
    simp only [ref8Makespan.l0]
    rw [if_pos (show (i : Int) < o.length by omega), if_pos (show (0 : Int) ≤ i by omega), if_pos hx.1, if_pos hx.2, hdr, List.foldl_cons]
    have ht := ih k (i + 1) (p + (rdP ds (rd o i)).1) (max s (p + (rdP ds (rd o i)).1) + (rdP ds (rd o i)).2) (by omega) (by omega) (by omega) (by omega) (by omega) (by omega)
    rw [w64 (n := p + _) (by omega), mx_max, w64 (n := max _ _ + _) (by omega), w64 (n := (i : Int) + 1) (by omega), show ((i : Int) + 1) = ((i + 1 : Nat) : Int) by omega, ht]
    rfl
theorem rMake_f (ds : List (Int × Int)) (o : List Int) {k : Nat} (hk : 70 ≤ k) : ref8Makespan.f k ds o = some (makeF ds o, orderedE ds o) := by
  unfold ref8Makespan.f makeF
  rw [rOrder_f ds o hk, Option.bind_some]
  by_cases h : orderedE ds o = 0
  · rw [if_pos h, if_pos h, h]
    obtain ⟨h1, h2⟩ := ordered_ok h
    obtain ⟨h3, h4⟩ := perm_rng h2
    have hd := DOK.of_E h1
    exact rMake_l0 ds o hd h3 (by have := hd.1; omega) o.length k 0 0 0 (by omega) (by have := hd.1; omega) (by omega) (by omega) (by omega) (by omega)
  · rw [if_neg h, if_neg h]
theorem rFirst_f (a b : Int × Int) : ref8first.f a.1 a.2 b.1 b.2 = some (decide (jcmp a b < 0)) := by
  unfold ref8first.f jcmp cmpI
  by_cases h1 : a.1 ≤ a.2 <;> by_cases h2 : b.1 ≤ b.2
  · rw [decide_eq_true h1, decide_eq_true h2, if_neg (by decide), if_pos h1, if_pos h1, if_pos h2]
    congr 1
    rw [decide_eq_decide]
    by_cases h3 : a.1 < b.1
    · rw [if_pos h3]; omega
    · rw [if_neg h3]; split <;> omega
  · rw [decide_eq_true h1, decide_eq_false h2, if_pos (by decide), if_pos h1, if_neg h2]; rfl
  · rw [decide_eq_false h1, decide_eq_true h2, if_pos (by decide), if_neg h1, if_pos h2]; rfl
  · rw [decide_eq_false h1, decide_eq_false h2, if_neg (by decide), if_neg h1, if_neg h1, if_neg h2]
    congr 1
    rw [decide_eq_decide]
    by_cases h3 : b.2 < a.2
    · rw [if_pos h3]; omega
    · rw [if_neg h3]; split <;> omega
/-- x put ahead of the first that it stands ahead of. -/
def insF (cf : Int → Int → Int) (x : Int) : List Int → List Int
  | [] => [x]
  | y :: l => if cf x y < 0 then x :: y :: l else y :: insF cf x l
theorem insF_perm (cf : Int → Int → Int) (x : Int) : ∀ l, (insF cf x l).Perm (x :: l)
  | [] => List.Perm.refl _
  | y :: l => by
    unfold insF
    split
    · exact List.Perm.refl _
    · exact ((insF_perm cf x l).cons y).trans (List.Perm.swap x y l)
theorem insF_ahd {cf : Int → Int → Int} (hL : CmpLaw cf) (x : Int) : ∀ l : List Int, l.Pairwise (ahd cf) → (∀ y ∈ l, y < x) → (insF cf x l).Pairwise (ahd cf)
  | [], _, _ => List.pairwise_singleton _ _
  | y :: l, hp, hx => by
    obtain ⟨h1, h2⟩ := List.pairwise_cons.1 hp
    unfold insF
    split
    · rename_i hc
      refine List.pairwise_cons.2 ⟨fun z hz => ?_, hp⟩
      rcases List.mem_cons.1 hz with rfl | hz
      · exact .inl hc
      · exact hL.tr (.inl hc) (h1 z hz)
    · rename_i hc
      refine List.pairwise_cons.2 ⟨fun z hz => ?_, insF_ahd hL x l h2 (fun z hz => hx z (List.mem_cons_of_mem _ hz))⟩
      rcases List.mem_cons.1 ((insF_perm cf x l).mem_iff.1 hz) with rfl | hz
      · have a := hL.anti y z
        have b := hx y List.mem_cons_self
        unfold ahd
        omega
      · exact h1 z hz
theorem rSeq_yes (ds : List (Int × Int)) (out : List Int) (x : Nat) (hxl : x < 100) (hol : out.length ≤ 100) : ∀ (m k i : Nat) (next : List Int), i + m = out.length → m < k → next.length + m ≤ 200 → ref8Sequence.l1 k ds out x next true i = ref8Sequence.l0 (k - m - 1) ds (next ++ out.drop i) ((x + 1 : Nat) : Int) := by
  intro m
  induction m with
  | zero =>
    intro k i next hi hk hn
    obtain ⟨k, rfl⟩ : ∃ z, k = z + 1 := ⟨k - 1, by omega⟩
    simp only [ref8Sequence.l1]
    rw [if_neg (by omega), if_pos trivial, List.drop_eq_nil_of_le (by omega), List.append_nil, w64 (by omega), show k + 1 - 0 - 1 = k by omega, show ((x : Int) + 1) = ((x + 1 : Nat) : Int) by omega]
  | succ m ih =>
    intro k i next hi hk hn
    obtain ⟨k, rfl⟩ : ∃ z, k = z + 1 := ⟨k - 1, by omega⟩
    have hdr := drop_rd out (i : Int) (by omega) (by omega)
    rw [show ((i : Int) + 1).toNat = i + 1 by omega, Int.toNat_natCast] at hdr
    simp only [ref8Sequence.l1]
    rw [if_pos (show (i : Int) < out.length by omega), if_pos trivial, if_pos (show (0 : Int) ≤ i by omega), if_pos (by omega), w64 (by omega), show ((i : Int) + 1) = ((i + 1 : Nat) : Int) by omega, ih k (i + 1) _ (by omega) (by omega) (by rw [List.length_append, List.length_singleton]; omega), hdr, List.append_assoc, List.singleton_append, show k + 1 - (m + 1) - 1 = k - m - 1 by omega]
theorem rSeq_no (ds : List (Int × Int)) (out : List Int) (x : Nat) (hxl : x < ds.length) (hdl : ds.length ≤ 64) (hr : ∀ y ∈ out, 0 ≤ y ∧ y < ds.length) (hol : out.length ≤ 100) : ∀ (m k i : Nat) (next : List Int), i + m = out.length → m < k → next.length + m ≤ 150 → ref8Sequence.l1 k ds out x next false i = ref8Sequence.l0 (k - m - 1) ds (next ++ insF (jcf ds) x (out.drop i)) ((x + 1 : Nat) : Int) := by
  intro m
  induction m with
  | zero =>
    intro k i next hi hk hn
    obtain ⟨k, rfl⟩ : ∃ z, k = z + 1 := ⟨k - 1, by omega⟩
    simp only [ref8Sequence.l1]
    rw [if_neg (by omega), if_neg (by decide), if_pos (by omega), List.drop_eq_nil_of_le (by omega), w64 (by omega), show k + 1 - 0 - 1 = k by omega, show ((x : Int) + 1) = ((x + 1 : Nat) : Int) by omega]
    rfl
  | succ m ih =>
    intro k i next hi hk hn
    obtain ⟨k, rfl⟩ : ∃ z, k = z + 1 := ⟨k - 1, by omega⟩
    have hdr := drop_rd out (i : Int) (by omega) (by omega)
    rw [show ((i : Int) + 1).toNat = i + 1 by omega, Int.toNat_natCast] at hdr
    have hy := hr _ (rd_mem (o := out) (i := i) (by omega))
    simp only [ref8Sequence.l1]
    rw [if_pos (show (i : Int) < out.length by omega), if_neg (by decide), if_pos (show (0 : Int) ≤ x by omega), if_pos (show (x : Int) < ds.length by omega), if_pos (show (0 : Int) ≤ i by omega), if_pos hy.1, if_pos hy.2, rFirst_f, Option.bind_some, hdr]
    have hj : jcmp (rdP ds x) (rdP ds (rd out i)) = jcf ds x (rd out i) := rfl
    rw [hj]
    unfold insF
    by_cases hc : jcf ds x (rd out i) < 0
    · rw [decide_eq_true hc, if_pos rfl, if_pos hc, if_pos (by omega), Option.bind_some, if_pos (by rw [List.length_append, List.length_singleton]; omega), w64 (by omega), show ((i : Int) + 1) = ((i + 1 : Nat) : Int) by omega, rSeq_yes ds out x (by omega) hol m k (i + 1) _ (by omega) (by omega) (by rw [List.length_append, List.length_append, List.length_singleton, List.length_singleton]; omega), show k + 1 - (m + 1) - 1 = k - m - 1 by omega]
      simp
    · rw [decide_eq_false hc, if_neg (by decide), if_neg hc, if_pos (by omega), w64 (by omega), show ((i : Int) + 1) = ((i + 1 : Nat) : Int) by omega, ih k (i + 1) _ (by omega) (by omega) (by rw [List.length_append, List.length_singleton]; omega), show k + 1 - (m + 1) - 1 = k - m - 1 by omega]
      simp
theorem rSeq_l0 (ds : List (Int × Int)) (h0 : dumpsE ds = 0) : ∀ (n k i : Nat) (out : List Int), i + n = ds.length → 100 * n + 200 < k → out.Pairwise (ahd (jcf ds)) → out.Perm (upto i) → ref8Sequence.l0 k ds out i = some (jord ds, spanF ds (jord ds), 0) := by
  have hdl := (DOK.of_E h0).1
  intro n
  induction n with
  | zero =>
    intro k i out hi hk hp hq
    obtain ⟨k, rfl⟩ : ∃ z, k = z + 1 := ⟨k - 1, by omega⟩
    obtain rfl : i = ds.length := by omega
    obtain rfl : out = jord ds := srt_one (jcmp_law ds) (upto_pw _) hp hq
    simp only [ref8Sequence.l0]
    rw [if_neg (by omega), rMake_f _ _ (by omega), Option.bind_some, make_jord h0]
  | succ n ih =>
    intro k i out hi hk hp hq
    obtain ⟨k, rfl⟩ : ∃ z, k = z + 1 := ⟨k - 1, by omega⟩
    have hol : out.length = i := by rw [hq.length_eq, upto_length]
    have hr : ∀ y ∈ out, 0 ≤ y ∧ y < i := fun y hy => (upto_mem _ y).1 (hq.mem_iff.1 hy)
    simp only [ref8Sequence.l0]
    rw [if_pos (show (i : Int) < ds.length by omega)]
    have hst := rSeq_no ds out i (by omega) hdl (fun y hy => by have := hr y hy; omega) (by omega) out.length k 0 [] (by omega) (by omega) (by simp; omega)
    rw [List.nil_append, List.drop_zero, show ((0 : Nat) : Int) = 0 from rfl] at hst
    rw [hst]
    clear hst
    have hf : 100 * n + 200 < k - out.length - 1 := by omega
    refine ih (k - out.length - 1) (i + 1) _ (by omega) hf (insF_ahd (jcmp_law ds) _ _ hp (fun y hy => (hr y hy).2)) ?_
    rw [upto_succ]
    exact ((insF_perm _ _ _).trans (hq.cons _)).trans (List.perm_append_comm (l₁ := [(i : Int)]))
theorem rSeq_f (ds : List (Int × Int)) {k : Nat} (hk : 10000 ≤ k) : ∃ l m, ref8Sequence.f k ds = some (l, m, dumpsE ds) ∧ JBest ds m l.length l := by
  unfold ref8Sequence.f
  rw [rDumps_f ds (by omega), Option.bind_some]
  by_cases h : dumpsE ds = 0
  · have hdl := (DOK.of_E h).1
    rw [if_pos h, h]
    refine ⟨_, _, rSeq_l0 ds h ds.length k 0 [] (by omega) (by omega) List.Pairwise.nil (List.Perm.refl _), fun _ => ⟨?_, rfl, rfl⟩, fun e => absurd h e⟩
    rw [(jord_perm ds).length_eq, upto_length]
  · rw [if_neg h]
    exact ⟨[], 0, rfl, fun e => absurd e h, fun _ => ⟨rfl, rfl, rfl⟩⟩
/-- What is still to come of the sums at a position. -/
def cutV (ds : List (Int × Int)) (o : List Int) (q i : Nat) : Int := sumP (((inO ds o).take (q + 1)).drop i) + sumS ((inO ds o).drop (max i q))
theorem cutV_zero (ds : List (Int × Int)) (o : List Int) (q : Nat) : cutV ds o q 0 = critV ds o q := by
  unfold cutV critV
  rw [List.drop_zero, Nat.zero_max]
theorem cutV_end (ds : List (Int × Int)) (o : List Int) (q : Nat) : cutV ds o q o.length = 0 := by
  unfold cutV
  rw [List.drop_eq_nil_of_le (by rw [List.length_take, inO_length]; omega), List.drop_eq_nil_of_le (by rw [inO_length]; omega)]
  rfl
theorem cutP (ds : List (Int × Int)) (o : List Int) (q i : Nat) (h : i < o.length) : sumP (((inO ds o).take (q + 1)).drop i) = (if i ≤ q then (rdP ds (rd o i)).1 else 0) + sumP (((inO ds o).take (q + 1)).drop (i + 1)) := by
  by_cases hq : i ≤ q
  · rw [if_pos hq, List.drop_eq_getElem_cons (by rw [List.length_take, inO_length]; omega), sumP_cons, List.getElem_take, inO_get ds o i h]
  · rw [if_neg hq, List.drop_eq_nil_of_le (by rw [List.length_take]; omega), List.drop_eq_nil_of_le (by rw [List.length_take]; omega), Int.zero_add]
theorem cutS (ds : List (Int × Int)) (o : List Int) (q i : Nat) (h : i < o.length) : sumS ((inO ds o).drop (max i q)) = (if q ≤ i then (rdP ds (rd o i)).2 else 0) + sumS ((inO ds o).drop (max (i + 1) q)) := by
  by_cases hq : q ≤ i
  · rw [if_pos hq, Nat.max_eq_left hq, Nat.max_eq_left (by omega), dropS_succ ds o i h]
  · rw [if_neg hq, Nat.max_eq_right (by omega), Nat.max_eq_right (by omega), Int.zero_add]
theorem rCrit_l1 (ds : List (Int × Int)) (o : List Int) (hd : DOK ds) (hr : ∀ x ∈ o, 0 ≤ x ∧ x < ds.length) (h64 : o.length ≤ 64) (m : Int) (q : Nat) (hq : q < 100) : ∀ (n k i : Nat) (acc : Int), i + n = o.length → n < k → 0 ≤ acc → acc ≤ i * 2147483648 → ref8Critical.l1 k ds o m q acc i = if acc + cutV ds o q i = m then some ((q : Int), 0) else ref8Critical.l0 (k - n - 1) ds o m ((q + 1 : Nat) : Int) := by
  intro n
  induction n with
  | zero =>
    intro k i acc hi hk _ _
    obtain ⟨k, rfl⟩ : ∃ z, k = z + 1 := ⟨k - 1, by omega⟩
    obtain rfl : i = o.length := by omega
    simp only [ref8Critical.l1]
    rw [if_neg (by omega), cutV_end, Int.add_zero, w64 (by omega), show ((q : Int) + 1) = ((q + 1 : Nat) : Int) by omega, show k + 1 - 0 - 1 = k by omega]
  | succ n ih =>
    intro k i acc hi hk a0 a1
    obtain ⟨k, rfl⟩ : ∃ z, k = z + 1 := ⟨k - 1, by omega⟩
    have hx := hr _ (rd_mem (o := o) (i := i) (by omega))
    have hb := hd.at_ _ hx.1 hx.2
    have e1 := cutP ds o q i (by omega)
    have e2 := cutS ds o q i (by omega)
    have e3 : cutV ds o q i = sumP (((inO ds o).take (q + 1)).drop i) + sumS ((inO ds o).drop (max i q)) := rfl
    have e4 : cutV ds o q (i + 1) = sumP (((inO ds o).take (q + 1)).drop (i + 1)) + sumS ((inO ds o).drop (max (i + 1) q)) := rfl
    simp only [ref8Critical.l1]
    rw [if_pos (show (i : Int) < o.length by omega)]
    have ef : k + 1 - (n + 1) - 1 = k - n - 1 := by omega
    have ei : ((i : Int) + 1) = ((i + 1 : Nat) : Int) := by omega
    by_cases h1 : i ≤ q
    · rw [if_pos (show (i : Int) ≤ q by omega), if_pos (show (0 : Int) ≤ i by omega), if_pos hx.1, if_pos hx.2]
      rw [if_pos h1] at e1
      by_cases h2 : q ≤ i
      · rw [if_pos h2] at e2
        rw [if_pos (show (i : Int) ≥ q by omega), w64 (n := acc + _) (by omega), w64 (n := acc + _ + _) (by omega), w64 (n := (i : Int) + 1) (by omega), ei, ih k (i + 1) _ (by omega) (by omega) (by omega) (by omega), ef]
        congr 1
        rw [eq_iff_iff]
        omega
      · rw [if_neg h2] at e2
        rw [if_neg (show ¬ (i : Int) ≥ q by omega), w64 (n := acc + _) (by omega), w64 (n := (i : Int) + 1) (by omega), ei, ih k (i + 1) _ (by omega) (by omega) (by omega) (by omega), ef]
        congr 1
        rw [eq_iff_iff]
        omega
    · rw [if_neg h1] at e1
      rw [if_pos (show q ≤ i by omega)] at e2
      rw [if_neg (show ¬ (i : Int) ≤ q by omega), if_pos (show (i : Int) ≥ q by omega), if_pos (show (0 : Int) ≤ i by omega), if_pos hx.1, if_pos hx.2, w64 (n := acc + _) (by omega), w64 (n := (i : Int) + 1) (by omega), ei, ih k (i + 1) _ (by omega) (by omega) (by omega) (by omega), ef]
      congr 1
      rw [eq_iff_iff]
      omega
theorem rCrit_l0 (ds : List (Int × Int)) (o : List Int) (hd : DOK ds) (hr : ∀ x ∈ o, 0 ≤ x ∧ x < ds.length) (h64 : o.length ≤ 64) : ∀ (n k q : Nat), q + n = o.length → 100 * n + 100 < k → (∀ j, j < q → critV ds o j ≠ spanF ds o) → ∃ r, ref8Critical.l0 k ds o (spanF ds o) q = some (r, 0) ∧ IsCrit ds o r := by
  intro n
  induction n with
  | zero =>
    intro k q hq hk hj
    obtain ⟨k, rfl⟩ : ∃ z, k = z + 1 := ⟨k - 1, by omega⟩
    simp only [ref8Critical.l0]
    rw [if_neg (by omega)]
    exact ⟨-1, rfl, .inr ⟨rfl, fun j hjl => hj j (by omega)⟩⟩
  | succ n ih =>
    intro k q hq hk hj
    obtain ⟨k, rfl⟩ : ∃ z, k = z + 1 := ⟨k - 1, by omega⟩
    simp only [ref8Critical.l0]
    rw [if_pos (show (q : Int) < o.length by omega)]
    have h1 := rCrit_l1 ds o hd hr h64 (spanF ds o) q (by omega) o.length k 0 0 (by omega) (by omega) (by omega) (by omega)
    rw [cutV_zero, Int.zero_add, show ((0 : Nat) : Int) = 0 from rfl] at h1
    rw [h1]
    clear h1
    by_cases hc : critV ds o q = spanF ds o
    · rw [if_pos hc]
      exact ⟨q, rfl, .inl ⟨q, rfl, by omega, hc, hj⟩⟩
    · rw [if_neg hc]
      have hf : 100 * n + 100 < k - o.length - 1 := by omega
      obtain ⟨r, h2, h3⟩ := ih (k - o.length - 1) (q + 1) (by omega) hf (fun j hjq => by
        rcases (show j < q ∨ j = q by omega) with h | rfl
        · exact hj j h
        · exact hc)
      exact ⟨r, h2, h3⟩
theorem rCrit_f (ds : List (Int × Int)) (o : List Int) {k : Nat} (hk : 10000 ≤ k) : ∃ r, ref8Critical.f k ds o = some (r, orderedE ds o) ∧ (orderedE ds o = 0 → IsCrit ds o r) ∧ (orderedE ds o ≠ 0 → r = 0) := by
  unfold ref8Critical.f
  rw [rMake_f ds o (by omega), Option.bind_some]
  by_cases h : orderedE ds o = 0
  · obtain ⟨h1, h2⟩ := ordered_ok h
    obtain ⟨h3, h4⟩ := perm_rng h2
    have hd := DOK.of_E h1
    obtain ⟨r, h5, h6⟩ := rCrit_l0 ds o hd h3 (by have := hd.1; omega) o.length k 0 (by omega) (by have := hd.1; omega) (fun j hj => absurd hj (by omega))
    refine ⟨r, ?_, fun _ => h6, fun e => absurd h e⟩
    rw [if_pos h, h]
    have hm : makeF ds o = spanF ds o := by unfold makeF; rw [if_pos h]
    show ref8Critical.l0 k ds o (makeF ds o) 0 = _
    rw [hm]
    exact h5
  · rw [if_neg h]
    exact ⟨0, rfl, fun e => absurd e h, fun _ => rfl⟩
/-! ### As calls -/
theorem rSeq_any (w : World) (A : Option Addr) (c : Nat) (ds : List (Int × Int)) (h : kP.C w A ds.length ds) (hc : ds.length ≤ c) : Calls Try.prog 36 #[.slice A ds.length c] w (TriPost (JBest ds) (dumpsE ds) w) := by
  obtain ⟨z, hz⟩ : ∃ z : Nat, 10000 ≤ z := ⟨10000, Nat.le_refl _⟩
  obtain ⟨l, m, hf, hJ⟩ := rSeq_f ds hz
  refine (ref8Sequence.calls z A c ds l m _ w h hc hf).mono ?_
  rintro e w' ⟨v, rfl, hR, hb⟩
  obtain ⟨B, d, rfl⟩ := Kd.R_slice hR
  exact ⟨B, _, d, m, l, rfl, hb, (Kd.R_reads' hR).2.2, hJ⟩
theorem rMake_any (w : World) (A B : Option Addr) (c d : Nat) (ds : List (Int × Int)) (o : List Int) (h : kP.C w A ds.length ds) (hc : ds.length ≤ c) (k : (Kd.int .i64).C w B o.length o) (hd : o.length ≤ d) :
    Calls Try.prog 37 #[.slice A ds.length c, .slice B o.length d] w fun e w' => e = .returned (.tuple #[.int .i64 (makeF ds o), .int .i64 (orderedE ds o)]) ∧ Below w.heap.size w w' := by
  obtain ⟨z, hz⟩ : ∃ z : Nat, 70 ≤ z := ⟨70, Nat.le_refl _⟩
  exact ref8Makespan.calls z A c ds B d o _ _ w h hc k hd (rMake_f ds o hz)
theorem rCrit_any (w : World) (A B : Option Addr) (c d : Nat) (ds : List (Int × Int)) (o : List Int) (h : kP.C w A ds.length ds) (hc : ds.length ≤ c) (k : (Kd.int .i64).C w B o.length o) (hd : o.length ≤ d) :
    Calls Try.prog 39 #[.slice A ds.length c, .slice B o.length d] w fun e w' => ∃ r : Int, e = .returned (.tuple #[.int .i64 r, .int .i64 (orderedE ds o)]) ∧ Below w.heap.size w w' ∧ (orderedE ds o = 0 → IsCrit ds o r) ∧ (orderedE ds o ≠ 0 → r = 0) := by
  obtain ⟨z, hz⟩ : ∃ z : Nat, 10000 ≤ z := ⟨10000, Nat.le_refl _⟩
  obtain ⟨r, hf, h1, h2⟩ := rCrit_f ds o hz
  exact (ref8Critical.calls z A c ds B d o _ _ w h hc k hd hf).mono (fun e w' ⟨a, b⟩ => ⟨r, a, b, h1, h2⟩)
end Go.Proofs.Ytnoocdobldchoaa

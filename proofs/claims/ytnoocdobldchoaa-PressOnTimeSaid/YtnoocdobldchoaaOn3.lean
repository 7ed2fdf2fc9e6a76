/- The plain laws of the reference's Due and OnTime: they answer as the program's OnTime does. -/
import Derived.Test.YtnoocdobldchoaaOt1
import Derived.Test.YtnoocdobldchoaaOn2
import Derived.Test.YtnoocdobldchoaaIns
namespace Go.Proofs.Ytnoocdobldchoaa
open Go.RowKit Go.Proofs.YtnoocdobldchoaaW.PrintWords Go.Proofs.YtnoocdobldchoaaW.PrintMore Go.Proofs.YtnoocdobldchoaaW.PrintLast

theorem rDue_yes (ts : List (Int × Int)) (out : List Int) (x : Nat) (hxl : x < 100) : ∀ (m k i : Nat) (next : List Int), i + m = out.length → i + m ≤ 100 → m < k → next.length + m ≤ 200 → ref8Due.l1 k ts out x next true i = ref8Due.l0 (k - m - 1) ts (next ++ out.drop i) ((x + 1 : Nat) : Int) := by
  intro m
  induction m with
  | zero =>
    intro k i next hi hi2 hk hn
    obtain ⟨k, rfl⟩ : ∃ z, k = z + 1 := ⟨k - 1, by omega⟩
    simp only [ref8Due.l1]
    rw [if_neg (by omega), if_pos trivial, List.drop_eq_nil_of_le (by omega), List.append_nil, w64 (by omega), show k + 1 - 0 - 1 = k by omega, show ((x : Int) + 1) = ((x + 1 : Nat) : Int) by omega]
  | succ m ih =>
    intro k i next hi hi2 hk hn
    obtain ⟨k, rfl⟩ : ∃ z, k = z + 1 := ⟨k - 1, by omega⟩
    have hdr := drop_rd out (i : Int) (by omega) (by omega)
    rw [show ((i : Int) + 1).toNat = i + 1 by omega, Int.toNat_natCast] at hdr
    simp only [ref8Due.l1]
    rw [if_pos (show (i : Int) < out.length by omega), if_pos trivial, if_pos (show (0 : Int) ≤ i by omega), if_pos (by omega), w64 (by omega), show ((i : Int) + 1) = ((i + 1 : Nat) : Int) by omega, ih k (i + 1) _ (by omega) (by omega) (by omega) (by rw [List.length_append, List.length_singleton]; omega), hdr, List.append_assoc, List.singleton_append, show k + 1 - (m + 1) - 1 = k - m - 1 by omega]
theorem rDue_no (ts : List (Int × Int)) (out : List Int) (x : Nat) (hxl : x < ts.length) (hdl : ts.length ≤ 64) (hr : ∀ y ∈ out, 0 ≤ y ∧ y < ts.length) : ∀ (m k i : Nat) (next : List Int), i + m = out.length → i + m ≤ 100 → m < k → next.length + m ≤ 150 → ref8Due.l1 k ts out x next false i = ref8Due.l0 (k - m - 1) ts (next ++ insF (tcf ts) x (out.drop i)) ((x + 1 : Nat) : Int) := by
  intro m
  induction m with
  | zero =>
    intro k i next hi hi2 hk hn
    obtain ⟨k, rfl⟩ : ∃ z, k = z + 1 := ⟨k - 1, by omega⟩
    simp only [ref8Due.l1]
    rw [if_neg (by omega), if_neg (by decide), if_pos (by omega), List.drop_eq_nil_of_le (by omega), w64 (by omega), show k + 1 - 0 - 1 = k by omega, show ((x : Int) + 1) = ((x + 1 : Nat) : Int) by omega]
    rfl
  | succ m ih =>
    intro k i next hi hi2 hk hn
    obtain ⟨k, rfl⟩ : ∃ z, k = z + 1 := ⟨k - 1, by omega⟩
    have hdr := drop_rd out (i : Int) (by omega) (by omega)
    rw [show ((i : Int) + 1).toNat = i + 1 by omega, Int.toNat_natCast] at hdr
    have hy := hr _ (rd_mem (o := out) (i := i) (by omega))
    have hc0 := tcf_neg ts x (rd out i)
    unfold du at hc0
    simp only [ref8Due.l1]
    rw [if_pos (show (i : Int) < out.length by omega), if_neg (by decide), if_pos (show (0 : Int) ≤ x by omega), if_pos (show (x : Int) < ts.length by omega), if_pos (show (0 : Int) ≤ i by omega), if_pos hy.1, if_pos hy.2, hdr]
    unfold insF
    by_cases hc : tcf ts x (rd out i) < 0
    · rw [if_pos (hc0.1 hc), if_pos hc, if_pos (by omega), Option.bind_some, if_pos (by rw [List.length_append, List.length_singleton]; omega), w64 (by omega), show ((i : Int) + 1) = ((i + 1 : Nat) : Int) by omega, rDue_yes ts out x (by omega) m k (i + 1) _ (by omega) (by omega) (by omega) (by rw [List.length_append, List.length_append, List.length_singleton, List.length_singleton]; omega), show k + 1 - (m + 1) - 1 = k - m - 1 by omega]
      simp
    · rw [if_neg (fun e => hc (hc0.2 e)), if_neg hc, if_pos (by omega), w64 (by omega), show ((i : Int) + 1) = ((i + 1 : Nat) : Int) by omega, ih k (i + 1) _ (by omega) (by omega) (by omega) (by rw [List.length_append, List.length_singleton]; omega), show k + 1 - (m + 1) - 1 = k - m - 1 by omega]
      simp
theorem rDue_l0 (ts : List (Int × Int)) (hdl : ts.length ≤ 64) : ∀ (n k i : Nat) (out : List Int), i + n = ts.length → 100 * n + 200 < k → out.Pairwise (ahd (tcf ts)) → out.Perm (upto i) → ref8Due.l0 k ts out i = some (tord ts) := by
  intro n
  induction n with
  | zero =>
    intro k i out hi hk hp hq
    obtain ⟨k, rfl⟩ : ∃ z, k = z + 1 := ⟨k - 1, by omega⟩
    obtain rfl : i = ts.length := by omega
    obtain rfl : out = tord ts := srt_one (tcf_law ts) (upto_pw _) hp hq
    simp only [ref8Due.l0]
    rw [if_neg (by omega)]
  | succ n ih =>
    intro k i out hi hk hp hq
    obtain ⟨k, rfl⟩ : ∃ z, k = z + 1 := ⟨k - 1, by omega⟩
    have hol : out.length = i := by rw [hq.length_eq, upto_length]
    have hr : ∀ y ∈ out, 0 ≤ y ∧ y < i := fun y hy => (upto_mem _ y).1 (hq.mem_iff.1 hy)
    simp only [ref8Due.l0]
    rw [if_pos (show (i : Int) < ts.length by omega)]
    have hst := rDue_no ts out i (by omega) hdl (fun y hy => by have := hr y hy; omega) out.length k 0 [] (by omega) (by omega) (by omega) (by simp; omega)
    rw [List.nil_append, List.drop_zero, show ((0 : Nat) : Int) = 0 from rfl] at hst
    rw [hst]
    clear hst
    have hf : 100 * n + 200 < k - out.length - 1 := by omega
    refine ih (k - out.length - 1) (i + 1) _ (by omega) hf (insF_ahd (tcf_law ts) _ _ hp (fun y hy => (hr y hy).2)) ?_
    rw [upto_succ]
    exact ((insF_perm _ _ _).trans (hq.cons _)).trans (List.perm_append_comm (l₁ := [(i : Int)]))
theorem rDue_f (ts : List (Int × Int)) (hdl : ts.length ≤ 64) {k : Nat} (hk : 10000 ≤ k) : ref8Due.f k ts = some (tord ts) := by
  unfold ref8Due.f
  exact rDue_l0 ts hdl ts.length k 0 [] (by omega) (by omega) List.Pairwise.nil (List.Perm.refl _)
theorem r5 (ts : List (Int × Int)) (d late : List Int) (i : Nat) (hi : i < 100) (hll : late.length ≤ 100) (hdl : d.length ≤ 100) : ∀ (m k j : Nat) (b : Bool), j + m = d.length → m < k → ref8OnTime.l5 k ts d late i b j = if b = true ∨ (i : Int) ∈ d.drop j then ref8OnTime.l4 (k - m - 1) ts d late ((i + 1 : Nat) : Int) else ref8OnTime.l4 (k - m - 1) ts d (late ++ [(i : Int)]) ((i + 1 : Nat) : Int) := by
  intro m
  induction m with
  | zero =>
    intro k j b hj hk
    obtain ⟨k, rfl⟩ : ∃ z, k = z + 1 := ⟨k - 1, by omega⟩
    simp only [ref8OnTime.l5]
    rw [if_neg (by omega), List.drop_eq_nil_of_le (by omega), w64 (by omega), show k + 1 - 0 - 1 = k by omega, show ((i : Int) + 1) = ((i + 1 : Nat) : Int) by omega, if_pos (show late.length < 17592186044416 by omega)]
    cases b <;> simp
  | succ m ih =>
    intro k j b hj hk
    obtain ⟨k, rfl⟩ : ∃ z, k = z + 1 := ⟨k - 1, by omega⟩
    have hdr := drop_rd d (j : Int) (by omega) (by omega)
    rw [show ((j : Int) + 1).toNat = j + 1 by omega, Int.toNat_natCast] at hdr
    simp only [ref8OnTime.l5]
    rw [if_pos (show (j : Int) < d.length by omega), hdr, w64 (by omega), show ((j : Int) + 1) = ((j + 1 : Nat) : Int) by omega]
    have e0 : k + 1 - (m + 1) - 1 = k - m - 1 := by omega
    cases b with
    | true =>
      rw [if_pos rfl, ih k (j + 1) true (by omega) (by omega), if_pos (.inl rfl), if_pos (.inl rfl), e0]
    | false =>
      rw [if_neg (by decide), if_pos (show (0 : Int) ≤ j by omega), ih k (j + 1) _ (by omega) (by omega), e0]
      have hiff : ((rd d (j : Int) == (i : Int)) = true ∨ (i : Int) ∈ d.drop (j + 1)) ↔ (false = true ∨ (i : Int) ∈ rd d (j : Int) :: d.drop (j + 1)) := by
        rw [List.mem_cons]
        constructor
        · rintro (h | h)
          · exact .inr (.inl (eq_of_beq h).symm)
          · exact .inr (.inr h)
        · rintro (h | h | h)
          · cases h
          · exact .inl (by rw [h]; simp)
          · exact .inr h
      by_cases hc : false = true ∨ (i : Int) ∈ rd d (j : Int) :: d.drop (j + 1)
      · rw [if_pos (hiff.2 hc), if_pos hc]
      · rw [if_neg (fun e => hc (hiff.1 e)), if_neg hc]
theorem r4 (ts : List (Int × Int)) (htl : ts.length ≤ 64) (d : List Int) (hdl : d.length ≤ 64) : ∀ (n k i : Nat) (late : List Int), i + n = ts.length → 100 * n + 100 < k → late = (upto i).filter (fun x => decide (x ∉ d)) → ref8OnTime.l4 k ts d late i = some (d, (upto ts.length).filter (fun x => decide (x ∉ d)), 0) := by
  intro n
  induction n with
  | zero =>
    intro k i late hi hk hl
    obtain ⟨k, rfl⟩ : ∃ z, k = z + 1 := ⟨k - 1, by omega⟩
    simp only [ref8OnTime.l4]
    rw [if_neg (by omega), hl, show i = ts.length by omega]
  | succ n ih =>
    intro k i late hi hk hl
    obtain ⟨k, rfl⟩ : ∃ z, k = z + 1 := ⟨k - 1, by omega⟩
    have hll : late.length ≤ 100 := by
      have := List.length_filter_le (fun x => decide (x ∉ d)) (upto i)
      rw [hl]
      rw [upto_length] at this
      omega
    simp only [ref8OnTime.l4]
    rw [if_pos (show (i : Int) < ts.length by omega)]
    have h5 := r5 ts d late i (by omega) hll (by omega) d.length k 0 false (by omega) (by omega)
    rw [List.drop_zero, show ((0 : Nat) : Int) = 0 from rfl] at h5
    rw [h5]
    clear h5
    have hf : 100 * n + 100 < k - d.length - 1 := by omega
    have hu : (upto (i + 1)).filter (fun x => decide (x ∉ d)) = (upto i).filter (fun x => decide (x ∉ d)) ++ if (i : Int) ∈ d then [] else [(i : Int)] := by
      rw [upto_succ, List.filter_append]
      congr 1
      by_cases h : (i : Int) ∈ d <;> simp [h]
    by_cases hm : (i : Int) ∈ d
    · rw [if_pos (.inr hm)]
      exact ih _ (i + 1) _ (by omega) hf (by rw [hu, if_pos hm, List.append_nil, hl])
    · rw [if_neg (fun h => by rcases h with h | h; exact absurd h (by decide); exact hm h)]
      exact ih _ (i + 1) _ (by omega) hf (by rw [hu, if_neg hm, hl])
theorem r3_after (ts : List (Int × Int)) (o d : List Int) (q w : Nat) (hq : q < 100) (hdl : d.length ≤ 100) : ∀ (m k j : Nat) (less : List Int), j + m = d.length → w < j → m < k → less.length + m ≤ 200 → ref8OnTime.l3 k ts o d q w less j = ref8OnTime.l1 (k - m - 1) ts o (less ++ d.drop j) ((q + 1 : Nat) : Int) := by
  intro m
  induction m with
  | zero =>
    intro k j less hj hw hk hn
    obtain ⟨k, rfl⟩ : ∃ z, k = z + 1 := ⟨k - 1, by omega⟩
    simp only [ref8OnTime.l3]
    rw [if_neg (by omega), List.drop_eq_nil_of_le (by omega), List.append_nil, w64 (by omega), show k + 1 - 0 - 1 = k by omega, show ((q : Int) + 1) = ((q + 1 : Nat) : Int) by omega]
  | succ m ih =>
    intro k j less hj hw hk hn
    obtain ⟨k, rfl⟩ : ∃ z, k = z + 1 := ⟨k - 1, by omega⟩
    have hdr := drop_rd d (j : Int) (by omega) (by omega)
    rw [show ((j : Int) + 1).toNat = j + 1 by omega, Int.toNat_natCast] at hdr
    simp only [ref8OnTime.l3]
    rw [if_pos (show (j : Int) < d.length by omega), if_neg (show ¬ (j : Int) = w by omega), if_pos (show (0 : Int) ≤ j by omega), if_pos (by omega), w64 (by omega), show ((j : Int) + 1) = ((j + 1 : Nat) : Int) by omega, ih k (j + 1) _ (by omega) (by omega) (by omega) (by rw [List.length_append, List.length_singleton]; omega), hdr, List.append_assoc, List.singleton_append, show k + 1 - (m + 1) - 1 = k - m - 1 by omega]
theorem r3_before (ts : List (Int × Int)) (o d : List Int) (q w : Nat) (hq : q < 100) (hdl : d.length ≤ 100) (hw : w < d.length) : ∀ (m k j : Nat) (less : List Int), j + m = d.length → j ≤ w → m < k → less.length + m ≤ 200 → ref8OnTime.l3 k ts o d q w less j = ref8OnTime.l1 (k - m - 1) ts o (less ++ (d.drop j).eraseIdx (w - j)) ((q + 1 : Nat) : Int) := by
  intro m
  induction m with
  | zero => intro k j less hj hjw; omega
  | succ m ih =>
    intro k j less hj hjw hk hn
    obtain ⟨k, rfl⟩ : ∃ z, k = z + 1 := ⟨k - 1, by omega⟩
    have hdr := drop_rd d (j : Int) (by omega) (by omega)
    rw [show ((j : Int) + 1).toNat = j + 1 by omega, Int.toNat_natCast] at hdr
    simp only [ref8OnTime.l3]
    rw [if_pos (show (j : Int) < d.length by omega)]
    by_cases e : j = w
    · rw [if_pos (show (j : Int) = w by omega), w64 (by omega), show ((j : Int) + 1) = ((j + 1 : Nat) : Int) by omega, r3_after ts o d q w hq hdl m k (j + 1) less (by omega) (by omega) (by omega) (by omega), hdr, show w - j = 0 by omega, List.eraseIdx_cons_zero, show k + 1 - (m + 1) - 1 = k - m - 1 by omega]
    · rw [if_neg (show ¬ (j : Int) = w by omega), if_pos (show (0 : Int) ≤ j by omega), if_pos (by omega), w64 (by omega), show ((j : Int) + 1) = ((j + 1 : Nat) : Int) by omega, ih k (j + 1) _ (by omega) (by omega) (by omega) (by rw [List.length_append, List.length_singleton]; omega), hdr, show w - j = (w - (j + 1)) + 1 by omega, List.eraseIdx_cons_succ, List.append_assoc, List.singleton_append, show k + 1 - (m + 1) - 1 = k - m - 1 by omega]
theorem takeW_succ (ts : List (Int × Int)) (d : List Int) (j : Nat) (h : j < d.length) : sumW ts (d.take (j + 1)) = sumW ts (d.take j) + wk ts (rd d j) := by
  rw [List.take_succ_eq_append_getElem h, sumW_append]
  congr 1
  simp [sumW, rd, List.getD_eq_getElem?_getD, List.getElem?_eq_getElem h]
theorem r2 (ts : List (Int × Int)) (hT : TOK ts) (o d : List Int) (q : Nat) (hq : q < o.length) (hol : o.length ≤ 64) (ho : ∀ x ∈ o, 0 ≤ x ∧ x < ts.length) (hd : ∀ x ∈ d, 0 ≤ x ∧ x < ts.length) (hdl : d.length ≤ 64) (hd0 : 0 < d.length) : ∀ (m k j : Nat) (acc : Int) (w : Nat), j + m = d.length → m < k → acc = sumW ts (d.take j) → 0 ≤ acc → acc ≤ (j : Int) * 1073741824 → w = worstN ts d j → ref8OnTime.l2 k ts o d q acc w j = if sumW ts d > du ts (rd o q) then ref8OnTime.l3 (k - m - 1) ts o d q (worst ts d) [] 0 else ref8OnTime.l1 (k - m - 1) ts o d ((q + 1 : Nat) : Int) := by
  intro m
  induction m with
  | zero =>
    intro k j acc w hj hk ha a0 a1 hw
    obtain ⟨k, rfl⟩ : ∃ z, k = z + 1 := ⟨k - 1, by omega⟩
    have hx := ho _ (rd_mem (o := o) (i := q) hq)
    rw [show j = d.length by omega, List.take_length] at ha
    simp only [ref8OnTime.l2]
    rw [if_neg (by omega), if_pos (show (0 : Int) ≤ q by omega), if_pos (show (q : Int) < o.length by omega), if_pos hx.1, if_pos hx.2, w64 (by omega), show k + 1 - 0 - 1 = k by omega, show ((q : Int) + 1) = ((q + 1 : Nat) : Int) by omega, ha, hw, show j = d.length by omega]
    rfl
  | succ m ih =>
    intro k j acc w hj hk ha a0 a1 hw
    obtain ⟨k, rfl⟩ : ∃ z, k = z + 1 := ⟨k - 1, by omega⟩
    have hwl : w < d.length := by rw [hw]; exact worstN_le ts d j d.length (by omega) hd0
    have h1 := hd _ (rd_mem (o := d) (i := j) (by omega))
    have h2 := hd _ (rd_mem (o := d) (i := w) hwl)
    have hp := (hT.2 _ h1.1 h1.2).1
    have ht := takeW_succ ts d j (by omega)
    have hws : worstN ts d (j + 1) = if wk ts (rd d w) ≤ wk ts (rd d j) then j else w := by
      rw [hw]; rfl
    have e0 : k + 1 - (m + 1) - 1 = k - m - 1 := by omega
    simp only [ref8OnTime.l2]
    rw [if_pos (show (j : Int) < d.length by omega), if_pos (show (0 : Int) ≤ j by omega), if_pos h1.1, if_pos h1.2, if_pos (show (0 : Int) ≤ w by omega), if_pos (show (w : Int) < d.length by omega), if_pos h2.1, if_pos h2.2]
    have ew : ∀ x, (rdP ts x).1 = wk ts x := fun _ => rfl
    rw [ew, ew, w64 (n := acc + _) (by omega), w64 (n := (j : Int) + 1) (by omega), show ((j : Int) + 1) = ((j + 1 : Nat) : Int) by omega]
    by_cases hc : wk ts (rd d w) ≤ wk ts (rd d j)
    · rw [if_pos (show wk ts (rd d j) ≥ wk ts (rd d w) from hc), ih k (j + 1) _ j (by omega) (by omega) (by rw [ht, ha]) (by omega) (by omega) (by rw [hws, if_pos hc]), e0]
    · rw [if_neg (show ¬ wk ts (rd d j) ≥ wk ts (rd d w) from hc), ih k (j + 1) _ w (by omega) (by omega) (by rw [ht, ha]) (by omega) (by omega) (by rw [hws, if_neg hc]), e0]
theorem r1 (ts : List (Int × Int)) (hT : TOK ts) (o : List Int) (hol : o.length ≤ 64) (ho : ∀ x ∈ o, 0 ≤ x ∧ x < ts.length) : ∀ (n k i : Nat) (s : List Int × List Int), i + n = o.length → 300 * n + 10000 < k → (∀ x ∈ s.1, 0 ≤ x ∧ x < ts.length) → s.1.length ≤ i → ∃ k', 9000 ≤ k' ∧ ref8OnTime.l1 k ts o s.1 i = ref8OnTime.l4 k' ts ((o.drop i).foldl (mhStep ts) s).1 [] 0 ∧ ((o.drop i).foldl (mhStep ts) s).1.length ≤ o.length := by
  intro n
  induction n with
  | zero =>
    intro k i s hi hk hs hsl
    obtain ⟨k, rfl⟩ : ∃ z, k = z + 1 := ⟨k - 1, by omega⟩
    simp only [ref8OnTime.l1]
    rw [if_neg (by omega), List.drop_eq_nil_of_le (by omega)]
    exact ⟨k, by omega, rfl, by simp only [List.foldl_nil]; omega⟩
  | succ n ih =>
    intro k i s hi hk hs hsl
    obtain ⟨k, rfl⟩ : ∃ z, k = z + 1 := ⟨k - 1, by omega⟩
    have hdr := drop_rd o (i : Int) (by omega) (by omega)
    rw [show ((i : Int) + 1).toNat = i + 1 by omega, Int.toNat_natCast] at hdr
    have hx := ho _ (rd_mem (o := o) (i := i) (by omega))
    obtain ⟨x, hxe⟩ : ∃ z, z = rd o (i : Int) := ⟨_, rfl⟩
    have hd2 : ∀ y ∈ s.1 ++ [x], 0 ≤ y ∧ y < ts.length := fun y hy => by
      rcases List.mem_append.1 hy with h | h
      · exact hs y h
      · rw [List.mem_singleton.1 h, hxe]; exact hx
    have hdl2 : (s.1 ++ [x]).length = s.1.length + 1 := by rw [List.length_append, List.length_singleton]
    simp only [ref8OnTime.l1]
    rw [if_pos (show (i : Int) < o.length by omega), if_pos (show (0 : Int) ≤ i by omega), if_pos (by omega), hdr, List.foldl_cons, ← hxe]
    have h2 := r2 ts hT o (s.1 ++ [x]) i (by omega) hol ho hd2 (by omega) (by omega) (s.1 ++ [x]).length k 0 0 0 (by omega) (by omega) rfl (by omega) (by omega) rfl
    rw [show ((0 : Nat) : Int) = 0 from rfl, ← hxe] at h2
    rw [h2]
    clear h2
    by_cases hc : sumW ts (s.1 ++ [x]) ≤ du ts x
    · rw [if_neg (by omega)]
      have hm : mhStep ts s x = (s.1 ++ [x], s.2) := by unfold mhStep; rw [if_pos hc]
      rw [hm]
      exact ih (k - (s.1 ++ [x]).length - 1) (i + 1) (s.1 ++ [x], s.2) (by omega) (by omega) hd2 (by dsimp only; omega)
    · rw [if_pos (by omega)]
      have hwl : worst ts (s.1 ++ [x]) < (s.1 ++ [x]).length := worst_lt ts s.1 x
      have h3 := r3_before ts o (s.1 ++ [x]) i (worst ts (s.1 ++ [x])) (by omega) (by omega) hwl (s.1 ++ [x]).length (k - (s.1 ++ [x]).length - 1) 0 [] (by omega) (by omega) (by omega) (by simp; omega)
      rw [List.nil_append, List.drop_zero, Nat.sub_zero, show ((0 : Nat) : Int) = 0 from rfl] at h3
      rw [h3]
      clear h3
      have hm : mhStep ts s x = ((s.1 ++ [x]).eraseIdx (worst ts (s.1 ++ [x])), s.2 ++ [(s.1 ++ [x]).getD (worst ts (s.1 ++ [x])) 0]) := by unfold mhStep; rw [if_neg hc]
      rw [hm]
      have hel : ((s.1 ++ [x]).eraseIdx (worst ts (s.1 ++ [x]))).length ≤ i + 1 := by rw [List.length_eraseIdx, if_pos hwl]; omega
      exact ih (k - (s.1 ++ [x]).length - 1 - (s.1 ++ [x]).length - 1) (i + 1) ((s.1 ++ [x]).eraseIdx (worst ts (s.1 ++ [x])), _) (by omega) (by omega) (fun y hy => hd2 y (List.mem_of_mem_eraseIdx hy)) hel
theorem badT_ite {α : Type} (x : Int × Int) (a r : α) : (if x.1 < 1 then a else if x.1 > 1073741824 then a else if x.2 < 0 then a else if x.2 > 1073741824 then a else r) = if badT x = true then a else r := by
  have hb := badT_iff x
  by_cases h : badT x = true
  · rw [if_pos h]
    have : ¬ ((1 ≤ x.1 ∧ x.1 ≤ 1073741824) ∧ 0 ≤ x.2 ∧ x.2 ≤ 1073741824) := fun e => by rw [hb.2 e] at h; cases h
    by_cases a1 : x.1 < 1
    · rw [if_pos a1]
    rw [if_neg a1]
    by_cases b : x.1 > 1073741824
    · rw [if_pos b]
    rw [if_neg b]
    by_cases c : x.2 < 0
    · rw [if_pos c]
    rw [if_neg c, if_pos (by omega)]
  · have := hb.1 (Bool.eq_false_iff.2 h)
    rw [if_neg h, if_neg (by omega), if_neg (by omega), if_neg (by omega), if_neg (by omega)]
theorem rOn_l0 (ts : List (Int × Int)) (hl : ts.length ≤ 64) : ∀ (n k i : Nat), i + n = ts.length → n + 30000 < k → ((ts.drop i).any badT = false → tasksE ts = 0) → ref8OnTime.l0 k ts i = if (ts.drop i).any badT = true then some ([], [], 2) else some (doneF ts, lateF ts, 0) := by
  intro n
  induction n with
  | zero =>
    intro k i hi hk hE
    obtain ⟨k, rfl⟩ : ∃ z, k = z + 1 := ⟨k - 1, by omega⟩
    have hdn : ts.drop i = [] := List.drop_eq_nil_of_le (by omega)
    have h0 := hE (by rw [hdn]; rfl)
    have hT := TOK.of_E h0
    simp only [ref8OnTime.l0]
    rw [if_neg (by omega), rDue_f ts hl (by omega), Option.bind_some, hdn, if_neg (by decide)]
    obtain ⟨k', h1, h2, h3⟩ := r1 ts hT (tord ts) (by rw [tord_length]; omega) (fun x hx => tord_mem hx) (tord ts).length k 0 ([], []) (by omega) (by rw [tord_length]; omega) (by simp) (by simp)
    rw [List.drop_zero, show ((0 : Nat) : Int) = 0 from rfl] at h2
    rw [List.drop_zero] at h3
    rw [tord_length] at h3
    rw [h2]
    have h4 := r4 ts hl (mh ts (tord ts)).1 (by unfold mh; omega) ts.length k' 0 [] (by omega) (by omega) rfl
    rw [show ((0 : Nat) : Int) = 0 from rfl] at h4
    unfold doneF lateF
    rw [if_pos h0, if_pos h0]
    exact h4
  | succ n ih =>
    intro k i hi hk hE
    obtain ⟨k, rfl⟩ : ∃ z, k = z + 1 := ⟨k - 1, by omega⟩
    have hd2 : ts.drop i = rdP ts (i : Int) :: ts.drop (i + 1) := by
      have hd := dropP ts (0, 0) (i : Int) (by omega) (by omega)
      rw [show ((i : Int) + 1).toNat = i + 1 by omega] at hd
      exact hd
    simp only [ref8OnTime.l0]
    rw [if_pos (show (i : Int) < ts.length by omega), if_pos (show (0 : Int) ≤ i by omega), w64 (by omega), show ((i : Int) + 1) = ((i + 1 : Nat) : Int) by omega, badT_ite, hd2, List.any_cons]
    rw [hd2, List.any_cons] at hE
    by_cases hb : badT (rdP ts i) = true
    · rw [if_pos hb, hb, Bool.true_or, if_pos rfl]
    · rw [Bool.eq_false_iff.2 hb, Bool.false_or] at hE
      rw [if_neg hb, Bool.eq_false_iff.2 hb, Bool.false_or]
      exact ih k (i + 1) (by omega) (by omega) hE
theorem rOn_f (ts : List (Int × Int)) {k : Nat} (hk : 40000 ≤ k) : ref8OnTime.f k ts = some (doneF ts, lateF ts, tasksE ts) := by
  unfold ref8OnTime.f
  by_cases h : 64 < ts.length
  · have hE : tasksE ts = 3 := by unfold tasksE; rw [if_pos h]
    rw [if_pos (by omega)]
    unfold doneF lateF
    rw [hE, if_neg (by decide), if_neg (by decide)]
  · rw [if_neg (by omega)]
    have hE : tasksE ts = if ts.any badT = true then 2 else 0 := by unfold tasksE; rw [if_neg h]
    have h0 := rOn_l0 ts (by omega) ts.length k 0 (by omega) (by omega) (fun hb => by rw [List.drop_zero] at hb; rw [hE, hb]; rfl)
    rw [List.drop_zero, show ((0 : Nat) : Int) = 0 from rfl] at h0
    rw [h0]
    by_cases hb : ts.any badT = true
    · rw [if_pos hb] at hE ⊢
      unfold doneF lateF
      rw [hE, if_neg (by decide), if_neg (by decide)]
    · rw [if_neg hb] at hE ⊢
      rw [hE]
theorem rOn_any (w : World) (A : Option Addr) (c : Nat) (ts : List (Int × Int)) (h : kP.C w A ts.length ts) (hc : ts.length ≤ c) : Calls Try.prog 29 #[.slice A ts.length c] w (OPost ts w) := by
  obtain ⟨z, hz⟩ : ∃ z : Nat, 40000 ≤ z := ⟨40000, Nat.le_refl _⟩
  refine (ref8OnTime.calls z A c ts _ _ _ w h hc (rOn_f ts hz)).mono ?_
  rintro e w' ⟨v, u, rfl, h1, h2, hb⟩
  obtain ⟨B, d, rfl⟩ := Kd.R_slice h1
  obtain ⟨B', d', rfl⟩ := Kd.R_slice h2
  exact ⟨B, B', _, _, d, d', rfl, hb, (Kd.R_reads' h1).2.2, (Kd.R_reads' h2).2.2, (Kd.R_reads' h1).2.1, (Kd.R_reads' h2).2.1⟩
end Go.Proofs.Ytnoocdobldchoaa

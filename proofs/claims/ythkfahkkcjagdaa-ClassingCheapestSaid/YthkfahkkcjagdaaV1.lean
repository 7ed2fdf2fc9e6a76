/- A plan's lines: where they begin, what they cost, and that no other centre costs less. -/
import Derived.Test.YthkfahkkcjagdaaE4
namespace Go.Proofs.Ythkfahkkcjagdaa

section
variable {s : Nat → Fl} {least p : Int} {n : Nat}
theorem massD_add (i a : Nat) : ∀ b, massD s i (a + b) = massD s i a + massD s (i + a) b
  | 0 => by simp [massD]
  | b + 1 => by
    show massD s i (a + b) + (s (i + (a + b))).gr = massD s i a + (massD s (i + a) b + (s (i + a + b)).gr)
    rw [massD_add i a b, show i + (a + b) = i + a + b by omega]; omega
theorem costD_add (i : Nat) (m : Int) (a : Nat) : ∀ b, costD s i m (a + b) = costD s i m a + costD s (i + a) m b
  | 0 => by simp [costD]
  | b + 1 => by
    show costD s i m (a + b) + (s (i + (a + b))).gr * distI m (s (i + (a + b))).mic = costD s i m a + (costD s (i + a) m b + (s (i + a + b)).gr * distI m (s (i + a + b)).mic)
    rw [costD_add i m a b, show i + (a + b) = i + a + b by omega]; omega
/-- A centre that lies t aside costs at most t for each gram more. -/
theorem costD_lip {x m t : Int} (h1 : m - x ≤ t) (h2 : x - m ≤ t) (i : Nat) : ∀ d, (∀ k, k < d → 0 ≤ (s (i + k)).gr) → costD s i m d ≤ costD s i x d + t * massD s i d
  | 0, _ => by simp [costD, massD]
  | d + 1, h => by
    have h3 := costD_lip h1 h2 i d (fun k hk => h k (by omega))
    have h4 := h d (by omega)
    unfold costD massD
    have e : distI m (s (i + d)).mic ≤ distI x (s (i + d)).mic + t := by unfold distI; split <;> split <;> omega
    have e2 := Int.mul_le_mul_of_nonneg_left e h4
    grind
/-- A centre that lies ahead of all. -/
theorem costD_high {a b : Int} (hab : a ≤ b) (i : Nat) : ∀ d, (∀ k, k < d → b ≤ (s (i + k)).mic) → costD s i a d = costD s i b d + (b - a) * massD s i d
  | 0, _ => by simp [costD, massD]
  | d + 1, h => by
    have h1 := costD_high hab i d (fun k hk => h k (by omega))
    have h2 := h d (by omega)
    unfold costD massD
    rw [h1]
    have e1 : distI a (s (i + d)).mic = (s (i + d)).mic - a := by unfold distI; split <;> omega
    have e2 : distI b (s (i + d)).mic = (s (i + d)).mic - b := by unfold distI; split <;> omega
    rw [e1, e2]
    grind
/-- The weighted median is a best centre. -/
theorem cen_best (h : SOK s n) (hs : SRT s n) {i d : Nat} (hd : 0 < d) (hn : i + d ≤ n) (hk : okR s p i d = true) (x : Int) : costD s i (cen s i d) d ≤ costD s i x d := by
  obtain ⟨h1, h2, h3⟩ := med_spec h hd hn
  obtain ⟨c, hc⟩ : ∃ c, c = med s i d := ⟨_, rfl⟩
  unfold cen
  rw [← hc] at h1 h2 h3 ⊢
  obtain ⟨m, hm⟩ : ∃ m, m = (s (i + c)).mic := ⟨_, rfl⟩
  rw [← hm]
  have hgr : ∀ a, i + a < n → 0 ≤ (s (i + a)).gr := fun a ha => by have := (h (i + a) ha).2; omega
  rcases Int.le_total m x with hx | hx
  · have e1 := costD_low hx (i := i) (c + 1) (fun k hk2 => by rw [hm]; exact run_mono hs hn hk (by omega) h3)
    have e2 := costD_lip (s := s) (x := x) (m := m) (t := x - m) (by omega) (by omega) (i + (c + 1)) (d - (c + 1)) (fun k hk2 => by rw [Nat.add_assoc]; exact hgr _ (by omega))
    have e3 := costD_add (s := s) i m (c + 1) (d - (c + 1))
    have e4 := costD_add (s := s) i x (c + 1) (d - (c + 1))
    have e5 := massD_add (s := s) i (c + 1) (d - (c + 1))
    rw [show c + 1 + (d - (c + 1)) = d by omega] at e3 e4 e5
    have e6 := Int.mul_nonneg (show 0 ≤ x - m by omega) (show 0 ≤ 2 * massD s i (c + 1) - massD s i d by omega)
    have r : (x - m) * (2 * massD s i (c + 1) - massD s i d) = (x - m) * massD s i (c + 1) - (x - m) * massD s (i + (c + 1)) (d - (c + 1)) := by
      rw [← Int.mul_sub, e5, show 2 * massD s i (c + 1) - (massD s i (c + 1) + massD s (i + (c + 1)) (d - (c + 1))) = massD s i (c + 1) - massD s (i + (c + 1)) (d - (c + 1)) by omega]
    rw [r] at e6
    omega
  · have e1 := costD_high hx (s := s) (i + c) (d - c) (fun k hk2 => by rw [hm, Nat.add_assoc]; exact run_mono hs hn hk (by omega) (by omega))
    have e2 := costD_lip (s := s) (x := x) (m := m) (t := m - x) (by omega) (by omega) i c (fun k hk2 => hgr _ (by omega))
    have e3 := costD_add (s := s) i m c (d - c)
    have e4 := costD_add (s := s) i x c (d - c)
    have e5 := massD_add (s := s) i c (d - c)
    rw [show c + (d - c) = d by omega] at e3 e4 e5
    have e7 : 2 * massD s i c ≤ massD s i d := by
      rcases Nat.eq_zero_or_pos c with h0 | h0
      · rw [h0]
        have : 0 ≤ massD s i d := by have := (massD_bd h i d hn).1; omega
        simpa [massD] using this
      · have := h1 (c - 1) (by omega)
        rw [show c - 1 + 1 = c by omega] at this
        omega
    have e6 := Int.mul_nonneg (show 0 ≤ m - x by omega) (show 0 ≤ massD s i d - 2 * massD s i c by omega)
    have r : (m - x) * (massD s i d - 2 * massD s i c) = (m - x) * massD s (i + c) (d - c) - (m - x) * massD s i c := by
      rw [← Int.mul_sub, e5, show massD s i c + massD s (i + c) (d - c) - 2 * massD s i c = massD s (i + c) (d - c) - massD s i c by omega]
    rw [r] at e6
    omega
theorem runL_le {i : Nat} : ∀ (m d : Nat), d ≤ m → okR s p i d = true → d ≤ runL s p i m
  | 0, d, h, _ => by omega
  | m + 1, d, h, hk => by
    unfold runL
    split
    · exact h
    · rename_i h1
      rcases Nat.lt_or_ge m d with h2 | h2
      · rw [show d = m + 1 by omega] at hk; exact absurd hk h1
      · exact runL_le m d h2 hk
/-- What a line of a plan holds. -/
theorem line_cells {i d : Nat} (hd : 1 ≤ d) (hn : i + d ≤ n) (h : cO s least p i d ≠ none) :
    okR s p i d = true ∧ least ≤ massD s i d ∧ (erowF s p n i).getD (i + d) 0 = cen s i d ∧ (crowF s least p n i).getD (i + d) 0 = costD s i (cen s i d) d ∧ cO s least p i d = some (costD s i (cen s i d) d) := by
  have h1 : okR s p i d = true ∧ least ≤ massD s i d := by
    unfold cO at h
    split at h
    · assumption
    · exact absurd rfl h
  have h2 : cO s least p i d = some (costD s i (cen s i d) d) := by unfold cO; rw [if_pos h1]
  refine ⟨h1.1, h1.2, ?_, ?_, h2⟩
  · unfold erowF
    have := runL_le (s := s) (p := p) (i := i) (n - i) d (by omega) h1.1
    rw [erow_get _ _ _ _ hn, if_pos (by omega), show i + d - i = d by omega]
  · unfold crowF
    rw [crow_get _ _ _ _ _ _ hn, if_pos (by omega), show i + d - i = d by omega, h2]
    rfl
/-- The lines of a plan follow each other. -/
theorem plan_at : ∀ (k i j : Nat) (x : Nat × Nat), (planF s least p n k i)[j]? = some x → x.1 = i + (((planF s least p n k i).take j).map (·.2)).sum
  | 0, i, j, x, h => by simp [planF] at h
  | k + 1, i, 0, x, h => by
    rw [planF, List.getElem?_cons_zero] at h
    cases h
    simp
  | k + 1, i, j + 1, x, h => by
    rw [planF, List.getElem?_cons_succ] at h
    rw [plan_at k _ j x h, planF, List.take_succ_cons, List.map_cons, List.sum_cons]
    show i + cutD s least p n k i + 1 + _ = i + (cutD s least p n k i + 1 + _)
    omega
theorem plan_len : ∀ (k i : Nat), i ≤ n → restO s least p n k i ≠ none → ((planF s least p n k i).map (·.2)).sum = n - i
  | 0, i, hi, h => by
    unfold restO at h
    have : i = n := by
      by_cases e : i = n
      · exact e
      · rw [if_neg e] at h; exact absurd rfl h
    subst this
    simp [planF]
  | k + 1, i, hi, h => by
    have h1 := cut_ok h
    rw [planF, List.map_cons, List.sum_cons, plan_len k _ (by omega) (cut_some h).2]
    show cutD s least p n k i + 1 + _ = _
    omega
theorem plan_cost : ∀ (k i : Nat), i ≤ n → restO s least p n k i ≠ none → restO s least p n k i = some ((planF s least p n k i).map fun x => costD s x.1 (cen s x.1 x.2) x.2).sum
  | 0, i, hi, h => by
    unfold restO at h ⊢
    have : i = n := by
      by_cases e : i = n
      · exact e
      · rw [if_neg e] at h; exact absurd rfl h
    rw [if_pos this]
    simp [planF]
  | k + 1, i, hi, h => by
    have h1 := cut_ok h
    have h2 := cut_some h
    have h3 := h1.1
    unfold isD at h3
    rw [decide_eq_true_eq] at h3
    rw [planF, List.map_cons, List.sum_cons, ← h3]
    have h4 := line_cells (n := n) (by omega) (by omega) h2.1
    have h5 := plan_cost k _ (by omega) h2.2
    rw [show i + cutD s least p n k i + 1 = i + (cutD s least p n k i + 1) by omega] at h5 ⊢
    rw [h4.2.2.2.2, h5]
    rfl
end
end Go.Proofs.Ythkfahkkcjagdaa

/- The lower bound is one: no assignment has fewer boxes; and both ways to reckon it agree. -/
import Derived.Test.YtnoocdobldchoaaPkT1
namespace Go.Proofs.Ytnoocdobldchoaa

def tot : Nat → (Nat → Int) → Int
  | 0, _ => 0
  | k + 1, g => tot k g + g k
theorem tot_congr {g h : Nat → Int} : ∀ k, (∀ j, j < k → g j = h j) → tot k g = tot k h
  | 0, _ => rfl
  | k + 1, e => by unfold tot; rw [tot_congr k (fun j hj => e j (by omega)), e k (by omega)]
theorem tot_upd (g : Nat → Int) (b : Nat) (d : Int) : ∀ k, tot k (fun x => if x = b then g x + d else g x) = tot k g + if b < k then d else 0
  | 0 => by simp [tot]
  | k + 1 => by
    unfold tot
    rw [tot_upd g b d k]
    dsimp only
    by_cases h : k = b
    · subst h; simp; omega
    · rw [if_neg h]
      by_cases h2 : b < k
      · rw [if_pos h2, if_pos (by omega)]; omega
      · rw [if_neg h2, if_neg (by omega)]; omega
theorem tot_le {g h : Nat → Int} : ∀ k, (∀ j, j < k → g j ≤ h j) → tot k g ≤ tot k h
  | 0, _ => Int.le_refl _
  | k + 1, e => by unfold tot; have := tot_le k (fun j hj => e j (by omega)); have := e k (by omega); omega
theorem tot_add (g h : Nat → Int) : ∀ k, tot k (fun j => g j + h j) = tot k g + tot k h
  | 0 => rfl
  | k + 1 => by unfold tot; rw [tot_add g h k]; dsimp only; omega
theorem tot_room (g : Nat → Int) (c : Int) : ∀ k : Nat, tot k (fun j => (1 - g j) * c) = (k - tot k g) * c
  | 0 => by simp [tot]
  | k + 1 => by
    unfold tot; rw [tot_room g c k, ← Int.add_mul]
    congr 1; push_cast; omega
theorem tot_zero : ∀ k, tot k (fun _ => 0) = 0
  | 0 => rfl
  | k + 1 => by unfold tot; rw [tot_zero k]; rfl

def BoxInv (most a mass L M H S : Int) : Prop :=
  (L = 0 ∨ L = 1) ∧ (M = 0 ∨ M = 1) ∧ L + M ≤ 1 ∧ (M = 0 → H = 0) ∧ (M = 1 → most < 2 * H) ∧ (L = 1 → S = 0) ∧ 0 ≤ S ∧ (S = 0 ∨ a ≤ S) ∧ mass ≤ most ∧ H + S + (if L = 1 then most - a + 1 else 0) ≤ mass

/-- What the masses of the boxes are made of, behind all things. -/
theorem free_stats {most each a : Int} {k : Nat} (ha : 0 ≤ a) (ha2 : 2 * a ≤ most) : ∀ (ms : List Int) (f : Nat → Int × Int) (l : List Int), Free most each k ms f l → (∀ m ∈ ms, 1 ≤ m) → ∀ (L M H S : Nat → Int),
    (∀ j, BoxInv most a (f j).1 (L j) (M j) (H j) (S j)) →
    ∃ (g : Nat → Int) (L' M' H' S' : Nat → Int), (∀ j, BoxInv most a (g j) (L' j) (M' j) (H' j) (S' j)) ∧ ms.foldl (bstep most a) (tot k L, tot k M, tot k H, tot k S) = (tot k L', tot k M', tot k H', tot k S') := by
  intro ms
  induction ms with
  | nil => intro f l _ _ L M H S h; exact ⟨fun j => (f j).1, L, M, H, S, h, rfl⟩
  | cons m ms ih =>
    rintro f l ⟨b, l', _, hbk, hm, _, hfree⟩ h1 L M H S h
    have hm1 : 1 ≤ m := h1 m List.mem_cons_self
    have hb := h b
    have hbk' : b < k := by omega
    rw [List.foldl_cons]
    have hlast : ∀ m' ∈ ms, 1 ≤ m' := fun x hx => h1 x (List.mem_cons_of_mem _ hx)
    unfold BoxInv at hb
    obtain ⟨i1, i2, i3, i4, i5, i6, i7, i8, i9, i10⟩ := hb
    unfold bstep
    by_cases c1 : most - a < m
    · rw [if_pos c1]
      have e := tot_upd L b 1 k
      rw [if_pos hbk'] at e
      dsimp only
      rw [← e]
      refine ih (put f b m) l' hfree hlast _ M H S (fun j => ?_)
      by_cases hj : j = b
      · subst hj
        unfold BoxInv put
        rw [if_pos rfl, if_pos rfl]
        dsimp only
        split at i10
        · omega
        · have hL : L j = 0 := by omega
          rw [hL] at *
          rw [if_pos (by omega)]
          refine ⟨by omega, i2, by omega, i4, i5, by omega, i7, i8, by omega, by omega⟩
      · have := h j
        unfold put
        rw [if_neg hj, if_neg hj]
        exact this
    · rw [if_neg c1]
      by_cases c2 : most < 2 * m
      · rw [if_pos c2]
        have e := tot_upd M b 1 k
        have e2 := tot_upd H b m k
        rw [if_pos hbk'] at e e2
        dsimp only
        rw [← e, ← e2]
        refine ih (put f b m) l' hfree hlast L _ _ S (fun j => ?_)
        by_cases hj : j = b
        · subst hj
          unfold BoxInv put
          rw [if_pos rfl, if_pos rfl, if_pos rfl]
          dsimp only
          split at i10
          · omega
          · have hL : L j = 0 := by omega
            have hM : M j = 0 := by omega
            have hH := i4 hM
            rw [hL, hM, hH] at *
            rw [if_neg (by omega)]
            refine ⟨by omega, by omega, by omega, by omega, by omega, by omega, i7, i8, by omega, by omega⟩
        · have := h j
          unfold put
          rw [if_neg hj, if_neg hj, if_neg hj]
          exact this
      · rw [if_neg c2]
        by_cases c3 : a ≤ m
        · rw [if_pos c3]
          have e := tot_upd S b m k
          rw [if_pos hbk'] at e
          dsimp only
          rw [← e]
          refine ih (put f b m) l' hfree hlast L M H _ (fun j => ?_)
          by_cases hj : j = b
          · subst hj
            unfold BoxInv put
            rw [if_pos rfl, if_pos rfl]
            dsimp only
            split at i10
            · omega
            · have hL : L j = 0 := by omega
              rw [hL] at *
              rw [if_neg (by omega)]
              refine ⟨by omega, i2, by omega, i4, i5, by omega, by omega, by omega, by omega, by omega⟩
          · have := h j
            unfold put
            rw [if_neg hj, if_neg hj]
            exact this
        · rw [if_neg c3]
          refine ih (put f b m) l' hfree hlast L M H S (fun j => ?_)
          by_cases hj : j = b
          · subst hj
            unfold BoxInv put
            rw [if_pos rfl]
            exact ⟨i1, i2, i3, i4, i5, i6, i7, i8, by dsimp only; omega, by dsimp only; omega⟩
          · have := h j
            unfold put
            rw [if_neg hj]
            exact this

/-- No assignment has fewer boxes than the formula says, at any threshold. -/
theorem bval_le {most each a : Int} {k : Nat} (ha : 0 ≤ a) (ha2 : 2 * a ≤ most) (hmost : 1 ≤ most) {ms : List Int} {l : List Int} (h : Free most each k ms (fun _ => (0, 0)) l) (h1 : ∀ m ∈ ms, 1 ≤ m) : bval ms most a ≤ k := by
  obtain ⟨g, L, M, H, S, hi, hf⟩ := free_stats ha ha2 ms _ l h h1 (fun _ => 0) (fun _ => 0) (fun _ => 0) (fun _ => 0) (fun j => by unfold BoxInv; simp; omega)
  rw [tot_zero] at hf
  unfold bval
  rw [hf]
  have e1 : tot k (fun j => L j + M j) ≤ tot k (fun _ => 1) := tot_le k (fun j _ => by have := hi j; unfold BoxInv at this; omega)
  have e1' : tot k (fun _ => (1 : Int)) = k := by
    have := tot_room (fun _ => 0) 1 k
    rw [tot_zero] at this
    simpa using this
  rw [tot_add, e1'] at e1
  have e2 : tot k (fun j => H j + S j) ≤ tot k (fun j => (1 - L j) * most) := tot_le k (fun j _ => by
    have := hi j; unfold BoxInv at this
    obtain ⟨i1, i2, i3, i4, i5, i6, i7, i8, i9, i10⟩ := this
    rcases i1 with hL | hL
    · have e : (1 - L j) * most = most := by rw [hL]; simp
      rw [if_neg (by omega)] at i10; omega
    · have e : (1 - L j) * most = 0 := by rw [hL]; simp
      have := i6 hL; have := i4 (by omega); omega)
  rw [tot_add, tot_room] at e2
  unfold bform brest
  dsimp only
  split
  · have e3 : (tot k S - (tot k M * most - tot k H) + most - 1) / most < k - tot k L - tot k M + 1 := by
      refine Int.ediv_lt_of_lt_mul (by omega) ?_
      have e4 : (↑k - tot k L - tot k M + 1) * most = (k - tot k L) * most - tot k M * most + most := by
        rw [Int.add_mul, Int.sub_mul, Int.one_mul]
      rw [e4]; omega
    omega
  · omega

theorem foldl_max_le {α : Type} (g : Int → α → Int) (c : Int) : ∀ (l : List α) (b : Int), b ≤ c → (∀ x ∈ l, ∀ b, b ≤ c → g b x ≤ c) → l.foldl g b ≤ c
  | [], _, h, _ => h
  | x :: l, b, h, k => by rw [List.foldl_cons]; exact foldl_max_le g c l _ (k x List.mem_cons_self b h) (fun y hy => k y (List.mem_cons_of_mem _ hy))
theorem foldl_max_ge {α : Type} (g : Int → α → Int) (hg : ∀ b x, b ≤ g b x) (c : Int) : ∀ (l : List α) (b : Int), (c ≤ b ∨ ∃ x ∈ l, ∀ b, c ≤ g b x) → c ≤ l.foldl g b
  | [], _, h => by
    rcases h with h | ⟨x, hx, _⟩
    · exact h
    · simp at hx
  | x :: l, b, h => by
    rw [List.foldl_cons]
    refine foldl_max_ge g hg c l _ ?_
    rcases h with h | ⟨y, hy, h⟩
    · exact .inl (Int.le_trans h (hg b x))
    · rcases List.mem_cons.1 hy with rfl | hy
      · exact .inl (h b)
      · exact .inr ⟨y, hy, h⟩

theorem boundF_le {most each : Int} {k : Nat} (hmost : 1 ≤ most) {ms : List Int} {l : List Int} (h : Free most each k ms (fun _ => (0, 0)) l) (h1 : ∀ m ∈ ms, 1 ≤ m) : boundF ms most ≤ k := by
  unfold boundF
  refine foldl_max_le _ _ _ _ (by omega) (fun a ha b hb => ?_)
  have ha0 : 0 ≤ a := by
    rcases List.mem_cons.1 ha with rfl | ha
    · omega
    · have := h1 a ha; omega
  split
  · exact hb
  · have := bval_le ha0 (by omega) hmost h h1
    omega

/-- The masses that all boxes hold are at most what they take. -/
theorem free_sum {most each : Int} {k : Nat} : ∀ (ms : List Int) (f : Nat → Int × Int) (l : List Int), Free most each k ms f l → (∀ j, (f j).1 ≤ most) → ms.sum + tot k (fun j => (f j).1) ≤ k * most := by
  intro ms
  induction ms with
  | nil =>
    intro f l _ h
    have := tot_le (g := fun j => (f j).1) (h := fun j => (1 - (fun _ => 0) j) * most) k (fun j _ => by simpa using h j)
    rw [tot_room, tot_zero] at this
    simpa using this
  | cons m ms ih =>
    rintro f l ⟨b, l', _, hbk, hm, _, hfree⟩ h
    have := ih (put f b m) l' hfree (fun j => by
      unfold put
      split
      · exact hm
      · exact h j)
    have e : (fun j => (put f b m j).1) = fun j => if j = b then (f j).1 + m else (f j).1 := by
      funext j
      unfold put
      by_cases hj : j = b
      · rw [if_pos hj, if_pos hj, hj]
      · rw [if_neg hj, if_neg hj]
    rw [e, tot_upd (fun j => (f j).1), if_pos (by omega)] at this
    rw [List.sum_cons]; omega
end Go.Proofs.Ytnoocdobldchoaa

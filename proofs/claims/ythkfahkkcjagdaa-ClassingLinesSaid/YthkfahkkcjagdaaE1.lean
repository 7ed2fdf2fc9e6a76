/- Easier conditions never cost more: the plain law. -/
import Derived.Test.YthkfahkkcjagdaaC14
namespace Go.Proofs.Ythkfahkkcjagdaa

theorem kB_min (f : Nat → Int) : ∀ n m, m < n → f (kB f n) ≤ f m
  | 0, m, h => by omega
  | n + 1, m, h => by
    unfold kB
    rcases (show m < n ∨ m = n by omega) with h1 | rfl
    · have := kB_min f n m h1
      split <;> omega
    · split <;> omega
theorem okR_wide {s : Nat → Fl} {p p' : Int} (hp : p ≤ p') {i : Nat} : ∀ {d : Nat}, okR s p i d = true → okR s p' i d = true
  | 0, _ => rfl
  | d + 1, h => by
    unfold okR at *
    simp only [Bool.and_eq_true, decide_eq_true_eq] at *
    exact ⟨okR_wide hp h.1, h.2.1, by omega⟩
theorem cO_ease {s : Nat → Fl} {least p least' p' : Int} (hl : least' ≤ least) (hp : p ≤ p') {i d : Nat} {v : Int} (h : cO s least p i d = some v) : cO s least' p' i d = some v := by
  unfold cO at *
  split at h
  · rename_i h1
    rw [if_pos ⟨okR_wide hp h1.1, by omega⟩]
    exact h
  · cases h
theorem minO_ease {f g : Nat → Option Int} {m : Nat} (hfg : ∀ d v, d < m → f d = some v → ∃ v', g d = some v' ∧ v' ≤ v) {v : Int} (h : minO f m = some v) : ∃ v', minO g m = some v' ∧ v' ≤ v := by
  obtain ⟨⟨d, hd, e⟩, _⟩ := minO_le f m v h
  obtain ⟨v', h1, h2⟩ := hfg d v hd e
  cases hg : minO g m with
  | none => rw [(minO_none g m).1 hg d hd] at h1; cases h1
  | some u => exact ⟨u, rfl, Int.le_trans ((minO_le g m u hg).2 d v' hd h1) h2⟩
theorem restO_ease {s : Nat → Fl} {least p least' p' : Int} (hl : least' ≤ least) (hp : p ≤ p') {n : Nat} : ∀ (k i : Nat) (v : Int), restO s least p n k i = some v → ∃ v', restO s least' p' n k i = some v' ∧ v' ≤ v
  | 0, i, v, h => by
    unfold restO at *
    exact ⟨v, h, Int.le_refl _⟩
  | k + 1, i, v, h => by
    unfold restO at *
    refine minO_ease (fun d u hd hu => ?_) h
    cases h1 : cO s least p i (d + 1) with
    | none => rw [h1] at hu; simp [addO] at hu
    | some x =>
      cases h2 : restO s least p n k (i + d + 1) with
      | none => rw [h1, h2] at hu; simp [addO] at hu
      | some y =>
        rw [h1, h2] at hu
        have e : x + y = u := by simpa [addO] using hu
        obtain ⟨y', h3, h4⟩ := restO_ease hl hp k (i + d + 1) y h2
        exact ⟨x + y', by rw [cO_ease hl hp h1, h3]; rfl, by omega⟩
theorem best_ease {s : Nat → Fl} {least p least' p' : Int} (hl : least' ≤ least) (hp : p ≤ p') {n L L' : Nat} (hL : L ≤ L') (h : bestF s least p n (bestK s least p n L) < 4611686018427387904) :
    bestF s least' p' n (bestK s least' p' n L') ≤ bestF s least p n (bestK s least p n L) := by
  obtain ⟨m, hm⟩ : ∃ z, z = bestK s least p n L := ⟨_, rfl⟩
  have hml : m ≤ L := by
    rw [hm]; unfold bestK
    rcases kB_lt (bestF s least p n) (L + 1) with h1 | h1 <;> omega
  rw [← hm] at h ⊢
  have h1 := kB_min (bestF s least' p' n) (L' + 1) m (by omega)
  refine Int.le_trans h1 ?_
  unfold bestF at *
  cases e : restO s least p n m 0 with
  | none => rw [e] at h; exact absurd h (by decide)
  | some v =>
    obtain ⟨v', h2, h3⟩ := restO_ease hl hp m 0 v e
    rw [h2]
    exact h3
theorem errE_ease {fs : List Fl} {l least p l' least' p' : Int} (h : errE fs l least p = 0) (hl : l ≤ l' ∧ l' ≤ 16) (hs : 0 ≤ least' ∧ least' ≤ least) (hp : p ≤ p' ∧ p' ≤ 10000) : errE fs l' least' p' = 0 := by
  unfold errE spOK at *
  split at h
  · omega
  · rename_i h1
    rw [if_neg h1]
    split at h
    · rename_i h2
      rw [decide_eq_true_eq] at h2
      rw [if_pos ⟨by rw [decide_eq_true_eq]; omega, h2.2⟩]
    · omega
theorem errE_spec {fs : List Fl} {l least p : Int} (h : errE fs l least p = 0) : (1 ≤ l ∧ l ≤ 16) ∧ (0 ≤ least ∧ least ≤ 1073741824) ∧ 0 ≤ p ∧ p ≤ 10000 := by
  unfold errE spOK at h
  split at h
  · omega
  · split at h
    · rename_i h2
      rw [decide_eq_true_eq] at h2
      omega
    · omega
end Go.Proofs.Ythkfahkkcjagdaa

/- The lines of a plan have, for each kind, the mass of the fleeces: the plain law. -/
import Derived.Test.YthkfahkkcjagdaaE1
namespace Go.Proofs.Ythkfahkkcjagdaa

/-- What counts of a fleece: its mass, if it is of the kind. -/
def kw (K f : Fl) : Int := if sameK K f = true then f.gr else 0
/-- The sum over the first n. -/
def sumN (g : Nat → Int) : Nat → Int
  | 0 => 0
  | n + 1 => sumN g n + g n
theorem sumN_add (g : Nat → Int) (a : Nat) : ∀ b, sumN g (a + b) = sumN g a + sumN (fun k => g (a + k)) b
  | 0 => by simp [sumN]
  | b + 1 => by
    show sumN g (a + b) + g (a + b) = sumN g a + (sumN (fun k => g (a + k)) b + g (a + b))
    rw [sumN_add g a b]; omega
theorem sameK_sym {a b : Fl} : sameK a b = sameK b a := by
  unfold sameK
  rw [Bool.eq_iff_iff]
  simp only [decide_eq_true_eq]
  omega
theorem sumN_run {s : Nat → Fl} {p : Int} (K : Fl) (i : Nat) : ∀ d, okR s p i d = true → sumN (fun k => kw K (s (i + k))) d = if sameK K (s i) = true then massD s i d else 0
  | 0, _ => by simp [sumN, massD]
  | d + 1, h => by
    have h1 := okR_pre (show d ≤ d + 1 by omega) h
    have h2 := (okR_at h (show d < d + 1 by omega)).1
    show sumN (fun k => kw K (s (i + k))) d + kw K (s (i + d)) = _
    rw [sumN_run K i d h1]
    have e : sameK K (s (i + d)) = sameK K (s i) := by
      cases hh : sameK K (s i) with
      | true => exact sameK_trans (by rw [sameK_sym]; exact hh) h2
      | false =>
        cases h3 : sameK K (s (i + d)) with
        | false => rfl
        | true =>
          have h4 : sameK (s (i + d)) (s i) = true := by rw [sameK_sym]; exact h2
          have h5 : sameK K (s i) = true := by
            unfold sameK at h3 h4 ⊢
            rw [decide_eq_true_eq] at h3 h4 ⊢
            omega
          rw [hh] at h5; cases h5
    unfold kw
    rw [e]
    show _ = if sameK K (s i) = true then massD s i d + (s (i + d)).gr else 0
    split <;> omega
theorem sumN_mass {s : Nat → Fl} (i : Nat) : ∀ d, sumN (fun k => (s (i + k)).gr) d = massD s i d
  | 0 => rfl
  | d + 1 => by
    show sumN (fun k => (s (i + k)).gr) d + (s (i + d)).gr = massD s i d + (s (i + d)).gr
    rw [sumN_mass i d]
section
variable {s : Nat → Fl} {least p : Int} {n : Nat}
/-- A sum over the lines of a best division. -/
theorem plan_sum (g : Nat → Int) (G : Nat → Nat → Int) (hG : ∀ i d, cO s least p i d ≠ none → G i d = sumN (fun k => g (i + k)) d) : ∀ (k i : Nat), i ≤ n → restO s least p n k i ≠ none →
    ((planF s least p n k i).map fun x => G x.1 x.2).sum = sumN (fun k => g (i + k)) (n - i)
  | 0, i, hi, h => by
    unfold restO at h
    have : i = n := by
      by_cases e : i = n
      · exact e
      · rw [if_neg e] at h; exact absurd rfl h
    subst this
    simp [planF, sumN]
  | k + 1, i, hi, h => by
    have h1 := cut_ok h
    have h2 := cut_some h
    rw [planF, List.map_cons, List.sum_cons, plan_sum g G hG k _ (by omega) h2.2, hG _ _ h2.1]
    have e : n - i = (cutD s least p n k i + 1) + (n - (i + cutD s least p n k i + 1)) := by omega
    obtain ⟨c, hc⟩ : ∃ c, c = cutD s least p n k i + 1 := ⟨_, rfl⟩
    obtain ⟨r, hr⟩ : ∃ r, r = n - (i + cutD s least p n k i + 1) := ⟨_, rfl⟩
    rw [e, ← hc, ← hr, sumN_add, show i + cutD s least p n k i + 1 = i + c by omega]
    have e2 : (fun k => g (i + c + k)) = fun k => (fun k => g (i + k)) (c + k) := by
      funext k
      show g (i + c + k) = g (i + (c + k))
      rw [Nat.add_assoc]
    rw [e2]
end
/-- A sum in the order is the sum over the list. -/
theorem sum_map_perm {l m : List Int} (h : l.Perm m) : l.sum = m.sum := by
  induction h with
  | nil => rfl
  | cons x _ ih => rw [List.sum_cons, List.sum_cons, ih]
  | swap x y l => simp only [List.sum_cons]; omega
  | trans _ _ ih1 ih2 => rw [ih1, ih2]
theorem sumN_list (g : Int → Int) : ∀ (l : List Int), sumN (fun k => g (l.getD k 0)) l.length = (l.map g).sum := by
  intro l
  induction l with
  | nil => rfl
  | cons a l ih =>
    rw [List.length_cons, show l.length + 1 = 1 + l.length by omega, sumN_add]
    rw [List.map_cons, List.sum_cons, ← ih]
    have e : (fun k => (fun k => g ((a :: l).getD k 0)) (1 + k)) = fun k => g (l.getD k 0) := by
      funext k
      show g ((a :: l).getD (1 + k) 0) = _
      rw [show 1 + k = k + 1 by omega, List.getD_cons_succ]
    rw [e]
    simp [sumN]
theorem sum_order (fs : List Fl) (g : Fl → Int) : sumN (fun k => g (sF fs (ordF fs) k)) fs.length = sumN (fun k => g (rdF fs k)) fs.length := by
  have h1 := sumN_list (fun x => g (rdF fs x)) (ordF fs)
  rw [ordF_length] at h1
  have h2 := sumN_list (fun x => g (rdF fs x)) (upto fs.length)
  rw [upto_length] at h2
  have h3 : ((ordF fs).map fun x => g (rdF fs x)).sum = ((upto fs.length).map fun x => g (rdF fs x)).sum := sum_map_perm ((ordF_perm fs).map _)
  have e1 : (fun k => (fun x => g (rdF fs x)) ((ordF fs).getD k 0)) = fun k => g (sF fs (ordF fs) k) := rfl
  rw [e1] at h1
  rw [h1, h3, ← h2]
  have key : ∀ n, n ≤ fs.length → sumN (fun k => (fun x => g (rdF fs x)) ((upto fs.length).getD k 0)) n = sumN (fun k => g (rdF fs k)) n := by
    intro n
    induction n with
    | zero => intro _; rfl
    | succ n ih =>
      intro hn
      show _ + _ = _ + _
      rw [ih (by omega)]
      congr 2
      have : (upto fs.length).getD n 0 = n := by
        unfold upto
        rw [range_map_get _ (by omega)]
      show g (rdF fs ((upto fs.length).getD n 0)) = g (rdF fs n)
      rw [this]
  exact key _ (Nat.le_refl _)
/-- The totals. -/
theorem totals_kind {fs : List Fl} {least p : Int} {k : Nat} (K : Fl) (h : restO (sF fs (ordF fs)) least p fs.length k 0 ≠ none) :
    ((planF (sF fs (ordF fs)) least p fs.length k 0).map fun x => if sameK K (sF fs (ordF fs) x.1) = true then massD (sF fs (ordF fs)) x.1 x.2 else 0).sum = sumN (fun k => kw K (rdF fs k)) fs.length := by
  have := plan_sum (fun k => kw K (sF fs (ordF fs) k)) (fun i d => if sameK K (sF fs (ordF fs) i) = true then massD (sF fs (ordF fs)) i d else 0) (fun i d hc => by
    unfold cO at hc
    split at hc
    · rename_i h1; exact (sumN_run K i d h1.1).symm
    · exact absurd rfl hc) k 0 (Nat.zero_le _) h
  rw [this, Nat.sub_zero]
  have e : (fun k => (fun k => kw K (sF fs (ordF fs) k)) (0 + k)) = fun k => kw K (sF fs (ordF fs) k) := by funext k; rw [Nat.zero_add]
  rw [e]
  exact sum_order fs (kw K)
theorem totals_all {fs : List Fl} {least p : Int} {k : Nat} (h : restO (sF fs (ordF fs)) least p fs.length k 0 ≠ none) :
    ((planF (sF fs (ordF fs)) least p fs.length k 0).map fun x => massD (sF fs (ordF fs)) x.1 x.2).sum = sumN (fun k => (rdF fs k).gr) fs.length := by
  have := plan_sum (fun k => (sF fs (ordF fs) k).gr) (fun i d => massD (sF fs (ordF fs)) i d) (fun i d hc => (sumN_mass i d).symm) k 0 (Nat.zero_le _) h
  rw [this, Nat.sub_zero]
  have e : (fun k => (fun k => (sF fs (ordF fs) k).gr) (0 + k)) = fun k => (sF fs (ordF fs) k).gr := by funext k; rw [Nat.zero_add]
  rw [e]
  exact sum_order fs Fl.gr
end Go.Proofs.Ythkfahkkcjagdaa

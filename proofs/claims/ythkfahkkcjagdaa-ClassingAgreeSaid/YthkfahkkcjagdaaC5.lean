/- Runs of fleeces as plain mathematics: their mass, their cost about a centre, the weighted median. -/
import Derived.Test.YthkfahkkcjagdaaC4
namespace Go.Proofs.Ythkfahkkcjagdaa

def massD (s : Nat → Fl) (i : Nat) : Nat → Int
  | 0 => 0
  | d + 1 => massD s i d + (s (i + d)).gr
def distI (a b : Int) : Int := if a ≤ b then b - a else a - b
/-- What the first d fleeces from i on cost about the centre m. -/
def costD (s : Nat → Fl) (i : Nat) (m : Int) : Nat → Int
  | 0 => 0
  | d + 1 => costD s i m d + (s (i + d)).gr * distI m (s (i + d)).mic
def sameK (a b : Fl) : Bool := decide (a.k0 = b.k0 ∧ a.k1 = b.k1 ∧ a.k2 = b.k2 ∧ a.k3 = b.k3)
/-- One kind, and within the spread. -/
def okR (s : Nat → Fl) (p : Int) (i : Nat) : Nat → Bool
  | 0 => true
  | d + 1 => okR s p i d && (sameK (s i) (s (i + d)) && decide ((s (i + d)).mic - (s i).mic ≤ p))
/-- The least place from c on where the mass up to it is at least half of M. -/
def medF (s : Nat → Fl) (i : Nat) (M : Int) : Nat → Nat → Nat
  | 0, c => c
  | k + 1, c => if 2 * massD s i (c + 1) < M then medF s i M k (c + 1) else c
def med (s : Nat → Fl) (i d : Nat) : Nat := medF s i (massD s i d) d 0
def cen (s : Nat → Fl) (i d : Nat) : Int := (s (i + med s i d)).mic
/-- What the run of d fleeces from i on costs as a line, if it may be one. -/
def cO (s : Nat → Fl) (least p : Int) (i d : Nat) : Option Int := if okR s p i d = true ∧ least ≤ massD s i d then some (costD s i (cen s i d) d) else none

/-- The numbers of the first n fleeces are in their limits. -/
def SOK (s : Nat → Fl) (n : Nat) : Prop := ∀ k, k < n → (1 ≤ (s k).mic ∧ (s k).mic ≤ 10000) ∧ 1 ≤ (s k).gr ∧ (s k).gr ≤ 1073741824
/-- Within a kind the diameters do not fall. -/
def SRT (s : Nat → Fl) (n : Nat) : Prop := ∀ a b, a < b → b < n → sameK (s a) (s b) = true → (s a).mic ≤ (s b).mic

section
variable {s : Nat → Fl} {n : Nat}
theorem sameK_trans {a b c : Fl} (h : sameK a b = true) (k : sameK a c = true) : sameK b c = true := by
  unfold sameK at *; simp only [decide_eq_true_eq] at *; omega
theorem okR_pre {p : Int} {i : Nat} : ∀ {d e : Nat}, e ≤ d → okR s p i d = true → okR s p i e = true
  | 0, e, h, k => by rw [show e = 0 by omega]; rfl
  | d + 1, e, h, k => by
    rcases Nat.lt_or_ge e (d + 1) with h1 | h1
    · unfold okR at k
      rw [Bool.and_eq_true] at k
      exact okR_pre (by omega) k.1
    · rwa [show e = d + 1 by omega]
theorem okR_at {p : Int} {i d k : Nat} (h : okR s p i d = true) (hk : k < d) : sameK (s i) (s (i + k)) = true ∧ (s (i + k)).mic - (s i).mic ≤ p := by
  have := okR_pre (show k + 1 ≤ d by omega) h
  unfold okR at this
  simp only [Bool.and_eq_true, decide_eq_true_eq] at this
  exact this.2
theorem run_mono {p : Int} {i d : Nat} (hs : SRT s n) (hd : i + d ≤ n) (h : okR s p i d = true) {a b : Nat} (hab : a ≤ b) (hb : b < d) : (s (i + a)).mic ≤ (s (i + b)).mic := by
  rcases Nat.lt_or_ge a b with h1 | h1
  · exact hs _ _ (by omega) (by omega) (sameK_trans (okR_at h (by omega)).1 (okR_at h hb).1)
  · rw [show a = b by omega]; exact Int.le_refl _
theorem massD_bd (h : SOK s n) (i : Nat) : ∀ d, i + d ≤ n → (d : Int) ≤ massD s i d ∧ massD s i d ≤ d * 1073741824
  | 0, _ => by simp [massD]
  | d + 1, hd => by
    have := massD_bd h i d (by omega)
    have := h (i + d) (by omega)
    unfold massD
    omega
theorem massD_lt (h : SOK s n) (i : Nat) {a b : Nat} (hab : a < b) (hb : i + b ≤ n) : massD s i a < massD s i b := by
  induction b with
  | zero => omega
  | succ b ih =>
    have h1 := h (i + b) (by omega)
    show massD s i a < massD s i b + (s (i + b)).gr
    rcases Nat.lt_or_ge a b with h2 | h2
    · have := ih h2 (by omega); omega
    · rw [show a = b by omega]; omega
theorem dist_bd {a b : Int} (ha : 1 ≤ a ∧ a ≤ 10000) (hb : 1 ≤ b ∧ b ≤ 10000) : 0 ≤ distI a b ∧ distI a b ≤ 9999 := by
  unfold distI; split <;> omega
theorem mul_bd {x y a b : Int} (hx : 0 ≤ x) (hxa : x ≤ a) (hy : 0 ≤ y) (hyb : y ≤ b) : 0 ≤ x * y ∧ x * y ≤ a * b :=
  ⟨Int.mul_nonneg hx hy, Int.mul_le_mul hxa hyb hy (Int.le_trans hx hxa)⟩
theorem costD_bd (h : SOK s n) (i : Nat) {m : Int} (hm : 1 ≤ m ∧ m ≤ 10000) : ∀ d, i + d ≤ n → 0 ≤ costD s i m d ∧ costD s i m d ≤ d * 10736344498176
  | 0, _ => by simp [costD]
  | d + 1, hd => by
    have h1 := costD_bd h i hm d (by omega)
    have h2 := h (i + d) (by omega)
    have h3 := dist_bd hm h2.1
    have h4 := mul_bd (x := (s (i + d)).gr) (a := 1073741824) (by omega) h2.2.2 h3.1 h3.2
    unfold costD
    omega
theorem costD_low {i : Nat} {a b : Int} (hab : a ≤ b) : ∀ d, (∀ k, k < d → (s (i + k)).mic ≤ a) → costD s i b d = costD s i a d + (b - a) * massD s i d
  | 0, _ => by simp [costD, massD]
  | d + 1, h => by
    have h1 := costD_low hab d (fun k hk => h k (by omega))
    have h2 := h d (by omega)
    unfold costD massD
    rw [h1]
    have e1 : distI b (s (i + d)).mic = b - (s (i + d)).mic := by unfold distI; split <;> omega
    have e2 : distI a (s (i + d)).mic = a - (s (i + d)).mic := by unfold distI; split <;> omega
    rw [e1, e2]
    grind
/-- The centre moves on to the next fleece: what is behind it costs more, the rest less. -/
theorem costD_step {i c : Nat} : ∀ e, (∀ k, k ≤ c → (s (i + k)).mic ≤ (s (i + c)).mic) → (s (i + c)).mic ≤ (s (i + (c + 1))).mic → (∀ k, c + 1 ≤ k → k < c + 1 + e → (s (i + (c + 1))).mic ≤ (s (i + k)).mic) →
    costD s i (s (i + (c + 1))).mic (c + 1 + e) = costD s i (s (i + c)).mic (c + 1 + e) + ((s (i + (c + 1))).mic - (s (i + c)).mic) * massD s i (c + 1) - ((s (i + (c + 1))).mic - (s (i + c)).mic) * (massD s i (c + 1 + e) - massD s i (c + 1))
  | 0, h1, h2, _ => by
    rw [Nat.add_zero, costD_low h2 (c + 1) (fun k hk => h1 k (by omega))]
    grind
  | e + 1, h1, h2, h3 => by
    have ih := costD_step e h1 h2 (fun k hk hk2 => h3 k hk (by omega))
    have h4 := h3 (c + 1 + e) (by omega) (by omega)
    rw [show c + 1 + (e + 1) = c + 1 + e + 1 by omega]
    have eM : massD s i (c + 1 + e + 1) = massD s i (c + 1 + e) + (s (i + (c + 1 + e))).gr := rfl
    have eC : ∀ m, costD s i m (c + 1 + e + 1) = costD s i m (c + 1 + e) + (s (i + (c + 1 + e))).gr * distI m (s (i + (c + 1 + e))).mic := fun m => rfl
    rw [eM, eC, eC, ih]
    have e1 : distI (s (i + (c + 1))).mic (s (i + (c + 1 + e))).mic = (s (i + (c + 1 + e))).mic - (s (i + (c + 1))).mic := by unfold distI; split <;> omega
    have e2 : distI (s (i + c)).mic (s (i + (c + 1 + e))).mic = (s (i + (c + 1 + e))).mic - (s (i + c)).mic := by unfold distI; split <;> omega
    rw [e1, e2]
    generalize massD s i (c + 1) = X
    generalize massD s i (c + 1 + e) = Y
    generalize costD s i (s (i + c)).mic (c + 1 + e) = Z
    generalize (s (i + (c + 1 + e))).gr = G
    generalize (s (i + (c + 1 + e))).mic = a
    generalize (s (i + (c + 1))).mic = b
    generalize (s (i + c)).mic = d
    clear ih h1 h2 h3 h4 e1 e2 eM eC
    grind
/-- What the median is. -/
theorem medF_spec {i : Nat} {M : Int} : ∀ (k c : Nat), (∀ a, a < c → 2 * massD s i (a + 1) < M) → M ≤ 2 * massD s i (c + k) →
    (∀ a, a < medF s i M k c → 2 * massD s i (a + 1) < M) ∧ (0 < k → M ≤ 2 * massD s i (medF s i M k c + 1)) ∧ medF s i M k c ≤ c + k ∧ (0 < k → medF s i M k c < c + k)
  | 0, c, h, _ => ⟨h, fun h => absurd h (by omega), by simp [medF], fun h => absurd h (by omega)⟩
  | k + 1, c, h, hM => by
    unfold medF
    by_cases h1 : 2 * massD s i (c + 1) < M
    · rw [if_pos h1]
      have h2 : ∀ a, a < c + 1 → 2 * massD s i (a + 1) < M := fun a ha => by
        rcases (show a < c ∨ a = c by omega) with h3 | rfl
        · exact h a h3
        · exact h1
      have := medF_spec k (c + 1) h2 (by rw [show c + 1 + k = c + (k + 1) by omega]; exact hM)
      have hk : 0 < k := by
        rcases Nat.eq_zero_or_pos k with rfl | hk
        · simp at hM; omega
        · exact hk
      exact ⟨this.1, fun _ => this.2.1 hk, by omega, fun _ => by have := this.2.2.2 hk; omega⟩
    · rw [if_neg h1]
      exact ⟨h, fun _ => by omega, by omega, fun _ => by omega⟩
theorem med_spec (h : SOK s n) {i d : Nat} (hd : 0 < d) (hn : i + d ≤ n) : (∀ a, a < med s i d → 2 * massD s i (a + 1) < massD s i d) ∧ massD s i d ≤ 2 * massD s i (med s i d + 1) ∧ med s i d < d := by
  have h0 := massD_bd h i d hn
  have := medF_spec (s := s) (i := i) (M := massD s i d) d 0 (fun a ha => by omega) (by rw [Nat.zero_add]; omega)
  exact ⟨this.1, this.2.1 hd, by have := this.2.2.2 hd; unfold med; omega⟩
theorem med_one (h : SOK s n) {i d c : Nat} (hd : 0 < d) (hn : i + d ≤ n) (_ : c < d) (h1 : ∀ a, a < c → 2 * massD s i (a + 1) < massD s i d) (h2 : massD s i d ≤ 2 * massD s i (c + 1)) : med s i d = c := by
  have h3 := med_spec h hd hn
  rcases Nat.lt_trichotomy (med s i d) c with h4 | h4 | h4
  · have := h1 _ h4; omega
  · exact h4
  · have := h3.1 _ h4; omega
/-- The median does not move back. -/
theorem med_mono (h : SOK s n) {i d : Nat} (hn : i + (d + 1) ≤ n) {a : Nat} (ha : a < med s i d) : 2 * massD s i (a + 1) < massD s i (d + 1) := by
  rcases Nat.eq_zero_or_pos d with rfl | hd
  · simp [med, medF] at ha
  · have := (med_spec h hd (by omega)).1 a ha
    have := massD_lt h i (show d < d + 1 by omega) hn
    omega
theorem med_le (h : SOK s n) {i d : Nat} (hn : i + d ≤ n) : med s i d ≤ d ∧ (0 < d → med s i d < d) := by
  rcases Nat.eq_zero_or_pos d with rfl | hd
  · simp [med, medF]
  · have := (med_spec h hd hn).2.2; omega
end
end Go.Proofs.Ythkfahkkcjagdaa

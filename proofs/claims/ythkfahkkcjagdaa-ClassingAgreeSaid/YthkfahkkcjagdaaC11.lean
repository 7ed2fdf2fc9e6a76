/- The least costs by how many lines there are: plain; and the memory of their table. -/
import Derived.Test.YthkfahkkcjagdaaC8
namespace Go.Proofs.Ythkfahkkcjagdaa
open Go.RowKit Go.Proofs.YthkfahkkcjagdaaW.PrintWords Go.Proofs.YthkfahkkcjagdaaW.PrintMore Go.Proofs.YthkfahkkcjagdaaW.PrintLast

def omin : Option Int → Option Int → Option Int
  | none, b => b
  | some x, none => some x
  | some x, some y => some (min x y)
def addO : Option Int → Option Int → Option Int
  | some x, some y => some (x + y)
  | _, _ => none
def minO (f : Nat → Option Int) : Nat → Option Int
  | 0 => none
  | m + 1 => omin (minO f m) (f m)
/-- The least cost of the fleeces from i on in exactly k lines. -/
def restO (s : Nat → Fl) (least p : Int) (n : Nat) : Nat → Nat → Option Int
  | 0, i => if i = n then some 0 else none
  | k + 1, i => minO (fun d => addO (cO s least p i (d + 1)) (restO s least p n k (i + d + 1))) (n - i)
theorem minO_le (f : Nat → Option Int) : ∀ (m : Nat) (v : Int), minO f m = some v → (∃ d, d < m ∧ f d = some v) ∧ ∀ d x, d < m → f d = some x → v ≤ x
  | 0, v, h => by simp [minO] at h
  | m + 1, v, h => by
    unfold minO at h
    cases h1 : minO f m with
    | none =>
      rw [h1] at h
      have h2 : f m = some v := h
      refine ⟨⟨m, by omega, h2⟩, fun d x hd hx => ?_⟩
      rcases (show d < m ∨ d = m by omega) with h3 | rfl
      · have key : ∀ k, k ≤ m → minO f k = none → ∀ d, d < k → f d = none := by
          intro k
          induction k with
          | zero => intro _ _ d hd; omega
          | succ k ih =>
            intro hk hn d hd
            unfold minO at hn
            cases h5 : minO f k with
            | none =>
              rw [h5] at hn
              rcases (show d < k ∨ d = k by omega) with h6 | rfl
              · exact ih (by omega) h5 d h6
              · exact hn
            | some y => rw [h5] at hn; cases h7 : f k <;> rw [h7] at hn <;> simp [omin] at hn
        rw [key m (Nat.le_refl _) h1 d h3] at hx; cases hx
      · rw [h2] at hx; cases hx; exact Int.le_refl _
    | some y =>
      rw [h1] at h
      have ih := minO_le f m y h1
      cases h2 : f m with
      | none =>
        rw [h2] at h
        have : y = v := by simpa [omin] using h
        subst this
        refine ⟨?_, fun d x hd hx => ?_⟩
        · obtain ⟨⟨d, hd, e⟩, _⟩ := ih; exact ⟨d, by omega, e⟩
        · rcases (show d < m ∨ d = m by omega) with h3 | rfl
          · exact ih.2 d x h3 hx
          · rw [h2] at hx; cases hx
      | some z =>
        rw [h2] at h
        have : min y z = v := by simpa [omin] using h
        subst this
        refine ⟨?_, fun d x hd hx => ?_⟩
        · rcases (show y ≤ z ∨ z < y by omega) with h3 | h3
          · obtain ⟨⟨d, hd, e⟩, _⟩ := ih
            exact ⟨d, by omega, by rw [e]; congr 1; omega⟩
          · exact ⟨m, by omega, by rw [h2]; congr 1; omega⟩
        · rcases (show d < m ∨ d = m by omega) with h3 | rfl
          · have := ih.2 d x h3 hx; omega
          · rw [h2] at hx; cases hx; omega
theorem minO_none (f : Nat → Option Int) : ∀ m, minO f m = none ↔ ∀ d, d < m → f d = none
  | 0 => by simp [minO]
  | m + 1 => by
    unfold minO
    have ih := minO_none f m
    constructor
    · intro h d hd
      cases h1 : minO f m with
      | none =>
        rw [h1] at h
        rcases (show d < m ∨ d = m by omega) with h3 | rfl
        · exact ih.1 h1 d h3
        · exact h
      | some y => rw [h1] at h; cases h2 : f m <;> rw [h2] at h <;> simp [omin] at h
    · intro h
      rw [ih.2 (fun d hd => h d (by omega)), h m (by omega)]; rfl
section
variable {s : Nat → Fl} {least p : Int} {n : Nat}
theorem cO_bd (h : SOK s n) {i d : Nat} (hd : 0 < d) (hn : i + d ≤ n) {v : Int} (hv : cO s least p i d = some v) : 0 ≤ v ∧ v ≤ d * 10736344498176 := by
  unfold cO at hv
  split at hv
  · cases hv
    have hm := (med_spec h hd hn).2.2
    have := costD_bd h i (m := cen s i d) (h (i + med s i d) (by omega)).1 d hn
    exact this
  · cases hv
theorem restO_bd (h : SOK s n) : ∀ (k i : Nat) (v : Int), i ≤ n → restO s least p n k i = some v → 0 ≤ v ∧ v ≤ ((n : Int) - i) * 10736344498176
  | 0, i, v, hi, hv => by
    unfold restO at hv
    split at hv
    · cases hv; rename_i e; subst e; omega
    · cases hv
  | k + 1, i, v, hi, hv => by
    unfold restO at hv
    obtain ⟨⟨d, hd, e⟩, _⟩ := minO_le _ _ _ hv
    cases h1 : cO s least p i (d + 1) with
    | none => rw [h1] at e; simp [addO] at e
    | some x =>
      cases h2 : restO s least p n k (i + d + 1) with
      | none => rw [h1, h2] at e; simp [addO] at e
      | some y =>
        rw [h1, h2] at e
        have e' : x + y = v := by simpa [addO] using e
        have a := cO_bd h (by omega) (by omega) h1
        have b := restO_bd h k (i + d + 1) y (by omega) h2
        omega
end
/-- The row of the least costs in k lines; and while the place i is being reckoned. -/
def lrow (s : Nat → Fl) (least p : Int) (n k : Nat) : List Int := (List.range (n + 1)).map fun i => pE (restO s least p n k i)
def lpart (s : Nat → Fl) (least p : Int) (n k i d : Nat) : List Int := (List.range (n + 1)).map fun x => if x < i then pE (restO s least p n (k + 1) x) else if x = i then pE (minO (fun d => addO (cO s least p i (d + 1)) (restO s least p n k (i + d + 1))) d) else 4611686018427387904
section
variable (s : Nat → Fl) (least p : Int) (n k i d : Nat)
theorem lrow_length : (lrow s least p n k).length = n + 1 := by simp [lrow]
theorem lpart_length : (lpart s least p n k i d).length = n + 1 := by simp [lpart]
theorem lrow_get {j : Nat} (h : j ≤ n) : (lrow s least p n k).getD j 0 = pE (restO s least p n k j) := range_map_get _ (by omega)
theorem lpart_get (h : i ≤ n) : (lpart s least p n k i d).getD i 0 = pE (minO (fun d => addO (cO s least p i (d + 1)) (restO s least p n k (i + d + 1))) d) := by
  unfold lpart
  rw [range_map_get _ (by omega), if_neg (by omega), if_pos rfl]
theorem lpart_zero : lpart s least p n k 0 0 = List.replicate (n + 1) 4611686018427387904 := by
  refine List.ext_getElem? fun j => ?_
  unfold lpart
  rw [List.getElem?_map, List.getElem?_replicate]
  by_cases hj : j < n + 1
  · rw [List.getElem?_range hj, if_pos hj]
    simp only [Option.map_some]
    rw [if_neg (by omega)]
    split
    · rfl
    · rfl
  · rw [if_neg hj, List.getElem?_eq_none (by simp; omega)]; rfl
theorem lpart_step (h : i ≤ n) : (lpart s least p n k i d).set i (pE (minO (fun d => addO (cO s least p i (d + 1)) (restO s least p n k (i + d + 1))) (d + 1))) = lpart s least p n k i (d + 1) := by
  unfold lpart
  refine map_set_range _ _ _ _ _ (by omega) ?_ fun j hj hne => ?_
  · rw [if_neg (by omega), if_pos rfl]
  · by_cases h1 : j < i
    · rw [if_pos h1, if_pos h1]
    · rw [if_neg h1, if_neg h1, if_neg hne, if_neg hne]
theorem lpart_same (h : addO (cO s least p i (d + 1)) (restO s least p n k (i + d + 1)) = none) : lpart s least p n k i d = lpart s least p n k i (d + 1) := by
  unfold lpart
  refine List.map_congr_left fun j _ => ?_
  by_cases h1 : j < i
  · rw [if_pos h1, if_pos h1]
  · rw [if_neg h1, if_neg h1]
    by_cases h2 : j = i
    · rw [if_pos h2, if_pos h2]
      show _ = pE (omin _ (addO (cO s least p i (d + 1)) (restO s least p n k (i + d + 1))))
      rw [h]
      cases minO (fun d => addO (cO s least p i (d + 1)) (restO s least p n k (i + d + 1))) d <;> rfl
    · rw [if_neg h2, if_neg h2]
theorem lpart_next (_ : i < n) : lpart s least p n k i (n - i) = lpart s least p n k (i + 1) 0 := by
  unfold lpart
  refine List.map_congr_left fun j _ => ?_
  rcases Nat.lt_trichotomy j i with h | h | h
  · rw [if_pos h, if_pos (by omega)]
  · rw [if_neg (by omega), if_pos h, if_pos (by omega), h]; rfl
  · rw [if_neg (by omega), if_neg (by omega), if_neg (by omega)]
    split
    · rfl
    · rfl
theorem lpart_last : lpart s least p n k n 0 = lrow s least p n (k + 1) := by
  unfold lpart lrow
  refine List.map_congr_left fun j hj => ?_
  have hj : j < n + 1 := List.mem_range.1 hj
  by_cases h : j < n
  · rw [if_pos h]
  · rw [if_neg h, if_pos (by omega), show j = n by omega]
    show _ = pE (minO (fun d => addO (cO s least p n (d + 1)) (restO s least p n k (n + d + 1))) (n - n))
    rw [Nat.sub_self]
theorem lrow_zero : (List.replicate (n + 1) (4611686018427387904 : Int)).set n 0 = lrow s least p n 0 := by
  have e : List.replicate (n + 1) (4611686018427387904 : Int) = (List.range (n + 1)).map fun _ => 4611686018427387904 := by
    refine List.ext_getElem? fun j => ?_
    rw [List.getElem?_map, List.getElem?_replicate]
    by_cases hj : j < n + 1
    · rw [List.getElem?_range hj, if_pos hj]; rfl
    · rw [if_neg hj, List.getElem?_eq_none (by simp; omega)]; rfl
  rw [e]
  unfold lrow
  refine map_set_range _ _ _ _ _ (by omega) ?_ fun j hj hne => ?_
  · unfold restO; rw [if_pos rfl]; rfl
  · unfold restO; rw [if_neg hne]; rfl
end
theorem pE_lt {o : Option Int} {b : Int} (h : ∀ v, o = some v → 0 ≤ v ∧ v ≤ b) (hb : b < 4611686018427387904) : pE o < 4611686018427387904 ↔ o ≠ none := by
  cases o with
  | none => simp [pE]
  | some v => have := h v rfl; simp [pE]; omega
end Go.Proofs.Ythkfahkkcjagdaa

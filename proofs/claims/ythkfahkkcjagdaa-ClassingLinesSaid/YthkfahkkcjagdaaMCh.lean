/- Cost, Curve and Price of a division: the plain side, and their walks. -/
import Derived.Test.YthkfahkkcjagdaaE1
import Derived.Test.YthkfahkkcjagdaaE4
import Derived.Deep.DeepCutAuto
namespace Go.Proofs.Ythkfahkkcjagdaa

/-- The lengths taken off one after the other; none: one is below 1 or above what is left. -/
def chkL : Int → List Int → Option Int
  | x, [] => some x
  | x, l :: ls => if l < 1 ∨ x < l then none else chkL (x - l) ls
/-- What the lines of these lengths cost together, from a place on. -/
def sumC (s : Nat → Fl) (least p : Int) : Nat → List Int → Option Int
  | _, [] => some 0
  | i, l :: ls => addO (cO s least p i l.toNat) (sumC s least p (i + l.toNat) ls)
/-- The least of cost and a price c for each line, of the fleeces from i on. -/
def priceO (s : Nat → Fl) (least p c : Int) (n i : Nat) : Option Int :=
  if i < n then minO (fun d => if h : d < n - i then addO (addO (cO s least p i (d + 1)) (some c)) (priceO s least p c n (i + d + 1)) else none) (n - i) else some 0
termination_by n - i
/-- What Cost answers: the number and the error. -/
def costV (s : Nat → Fl) (n : Nat) (l least p : Int) (ls : List Int) : Int × Int :=
  if 128 < ls.length then (0, 3)
  else if chkL n ls = some 0 then
    if l < ls.length then (0, 13) else match sumC s least p 0 ls with
      | none => (0, 13)
      | some v => (v, 0)
  else (0, 2)
def costR (fs : List Fl) (l least p : Int) (ls : List Int) : Int × Int :=
  if errE fs l least p = 0 then costV (sF fs (ordF fs)) fs.length l least p ls else (0, errE fs l least p)
def negE : Option Int → Int
  | none => -1
  | some x => x
/-- What Curve answers. -/
def curveL (s : Nat → Fl) (least p : Int) (n most : Nat) : List Int := (List.range most).map fun k => negE (restO s least p n (k + 1) 0)
/-- What Price answers. -/
def priceV (s : Nat → Fl) (n : Nat) (least p c : Int) : Int × Int :=
  if c < 0 ∨ 1125899906842624 < c then (0, 2) else match priceO s least p c n 0 with
    | none => (0, 13)
    | some v => (v, 0)
def priceR (fs : List Fl) (l least p c : Int) : Int × Int :=
  if errE fs l least p = 0 then priceV (sF fs (ordF fs)) fs.length least p c else (0, errE fs l least p)

section
variable {s : Nat → Fl} {least p : Int} {n : Nat}
theorem addO_some {a b : Option Int} {v : Int} (h : addO a b = some v) : ∃ x y, a = some x ∧ b = some y ∧ x + y = v := by
  cases a <;> cases b <;> simp [addO] at h
  exact ⟨_, _, rfl, rfl, h⟩
theorem priceO_end {c : Int} : priceO s least p c n n = some 0 := by rw [priceO, if_neg (by omega)]
theorem priceO_at {c : Int} {i : Nat} (h : i < n) : priceO s least p c n i = minO (fun d => addO (addO (cO s least p i (d + 1)) (some c)) (priceO s least p c n (i + d + 1))) (n - i) := by
  rw [priceO, if_pos h]
  have key : ∀ (f g : Nat → Option Int) (m : Nat), (∀ d, d < m → f d = g d) → minO f m = minO g m := by
    intro f g m
    induction m with
    | zero => intro _; rfl
    | succ m ih => intro hm; unfold minO; rw [ih (fun d hd => hm d (by omega)), hm m (by omega)]
  exact key _ _ _ fun d hd => dif_pos hd
theorem minO_some (f : Nat → Option Int) {m d : Nat} {v : Int} (hd : d < m) (hv : f d = some v) : ∃ u, minO f m = some u ∧ u ≤ v := by
  cases h : minO f m with
  | none => rw [(minO_none f m).1 h d hd] at hv; cases hv
  | some u => exact ⟨u, rfl, (minO_le f m u h).2 d v hd hv⟩
theorem sumC_rest : ∀ (ls : List Int) (i : Nat) (v : Int), i ≤ n → chkL ((n : Int) - i) ls = some 0 → sumC s least p i ls = some v → ∃ u, restO s least p n ls.length i = some u ∧ u ≤ v
  | [], i, v, hi, h1, h2 => by
    simp only [chkL, Option.some.injEq] at h1
    simp only [sumC, Option.some.injEq] at h2
    exact ⟨0, by show restO s least p n 0 i = _; unfold restO; rw [if_pos (by omega)], by omega⟩
  | l :: ls, i, v, hi, h1, h2 => by
    unfold chkL at h1
    split at h1
    · cases h1
    · rename_i hl
      unfold sumC at h2
      obtain ⟨x, y, e1, e2, rfl⟩ := addO_some h2
      obtain ⟨u, e3, e4⟩ := sumC_rest ls (i + l.toNat) y (by omega) (by rw [show (n : Int) - (i + l.toNat : Nat) = n - i - l by omega]; exact h1) e2
      obtain ⟨u2, e5, e6⟩ := minO_some (fun d => addO (cO s least p i (d + 1)) (restO s least p n ls.length (i + d + 1))) (m := n - i) (d := l.toNat - 1) (v := x + u) (by omega) (by
        show addO (cO s least p i (l.toNat - 1 + 1)) (restO s least p n ls.length (i + (l.toNat - 1) + 1)) = _
        rw [show l.toNat - 1 + 1 = l.toNat by omega, show i + (l.toNat - 1) + 1 = i + l.toNat by omega, e1, e3]
        rfl)
      exact ⟨u2, by show restO s least p n (ls.length + 1) i = _; unfold restO; exact e5, by omega⟩
theorem price_le {c : Int} : ∀ (k i : Nat) (u : Int), i ≤ n → restO s least p n k i = some u → ∃ v, priceO s least p c n i = some v ∧ v ≤ u + c * k
  | 0, i, u, hi, h => by
    unfold restO at h
    split at h
    · rename_i e
      subst e
      cases h
      exact ⟨0, priceO_end, by simp⟩
    · cases h
  | k + 1, i, u, hi, h => by
    unfold restO at h
    obtain ⟨⟨d, hd, e⟩, _⟩ := minO_le _ _ _ h
    obtain ⟨x, y, e1, e2, rfl⟩ := addO_some e
    obtain ⟨v, e3, e4⟩ := price_le k (i + d + 1) y (by omega) e2
    obtain ⟨v2, e5, e6⟩ := minO_some (fun d => addO (addO (cO s least p i (d + 1)) (some c)) (priceO s least p c n (i + d + 1))) hd (v := x + c + v) (by rw [e1, e3]; rfl)
    refine ⟨v2, by rw [priceO_at (by omega)]; exact e5, ?_⟩
    have : c * ((k + 1 : Nat) : Int) = c * k + c := by rw [Int.natCast_add, Int.mul_add]; simp
    omega
theorem plan_sumC : ∀ (k i : Nat), i ≤ n → restO s least p n k i ≠ none → sumC s least p i ((planF s least p n k i).map fun x => (x.2 : Int)) = restO s least p n k i ∧ chkL ((n : Int) - i) ((planF s least p n k i).map fun x => (x.2 : Int)) = some 0
  | 0, i, hi, h => by
    unfold restO at h ⊢
    by_cases e : i = n
    · rw [if_pos e]
      exact ⟨rfl, by simp [planF, chkL]; omega⟩
    · rw [if_neg e] at h; exact absurd rfl h
  | k + 1, i, hi, h => by
    have h1 := cut_ok h
    have h2 := plan_sumC k (i + cutD s least p n k i + 1) (by omega) (cut_some h).2
    have h3 := h1.1
    unfold isD at h3
    rw [decide_eq_true_eq] at h3
    rw [planF, List.map_cons]
    constructor
    · unfold sumC
      dsimp only
      rw [Int.toNat_natCast, show i + (cutD s least p n k i + 1) = i + cutD s least p n k i + 1 by omega, h2.1, h3]
    · unfold chkL
      rw [if_neg (by have := h1.2; dsimp only; omega)]
      dsimp only
      rw [show (n : Int) - i - ((cutD s least p n k i + 1 : Nat) : Int) = (n : Int) - (i + cutD s least p n k i + 1 : Nat) by omega]
      exact h2.2
theorem curveL_length (most : Nat) : (curveL s least p n most).length = most := by simp [curveL]
theorem curveL_get {most k : Nat} (h : k < most) : (curveL s least p n most).getD k 0 = negE (restO s least p n (k + 1) 0) := by
  unfold curveL
  rw [List.getD_eq_getElem?_getD, List.getElem?_map, List.getElem?_range h]; rfl
/-- The least of the curve's entries that are not below 0, -1 if there is none: the loop's answer. -/
def leastL : Int → List Int → Int
  | x, [] => x
  | x, c :: cs => leastL (if 0 ≤ c ∧ (x < 0 ∨ c < x) then c else x) cs
theorem leastL_ge : ∀ (cs : List Int) (x : Int), 0 ≤ x → 0 ≤ leastL x cs ∧ leastL x cs ≤ x ∧ (∀ c ∈ cs, 0 ≤ c → leastL x cs ≤ c) ∧ (leastL x cs = x ∨ leastL x cs ∈ cs)
  | [], x, h => ⟨h, Int.le_refl _, by simp, .inl rfl⟩
  | c :: cs, x, h => by
    unfold leastL
    split
    · rename_i h1
      obtain ⟨a1, a2, a3, a4⟩ := leastL_ge cs c h1.1
      refine ⟨a1, by omega, fun d hd h0 => ?_, ?_⟩
      · rcases List.mem_cons.1 hd with rfl | hd
        · exact a2
        · exact a3 d hd h0
      · rcases a4 with e | e
        · right; rw [e]; exact List.mem_cons_self
        · right; exact List.mem_cons_of_mem _ e
    · rename_i h1
      obtain ⟨a1, a2, a3, a4⟩ := leastL_ge cs x h
      refine ⟨a1, a2, fun d hd h0 => ?_, ?_⟩
      · rcases List.mem_cons.1 hd with rfl | hd
        · omega
        · exact a3 d hd h0
      · rcases a4 with e | e
        · left; exact e
        · right; exact List.mem_cons_of_mem _ e
theorem leastL_is : ∀ (cs : List Int) (v : Int), v ∈ cs → 0 ≤ v → (∀ c ∈ cs, 0 ≤ c → v ≤ c) → leastL (-1) cs = v
  | [], v, h, _, _ => by simp at h
  | c :: cs, v, h, h0, hm => by
    unfold leastL
    by_cases hc : 0 ≤ c
    · rw [if_pos ⟨hc, .inl (by decide)⟩]
      obtain ⟨a1, a2, a3, a4⟩ := leastL_ge cs c hc
      have h1 : leastL c cs ≤ v := by
        rcases List.mem_cons.1 h with rfl | h
        · exact a2
        · exact a3 v h h0
      have h2 : v ≤ leastL c cs := by
        rcases a4 with e | e
        · rw [e]; exact hm c List.mem_cons_self hc
        · exact hm _ (List.mem_cons_of_mem _ e) a1
      omega
    · rw [if_neg (fun h => hc h.1)]
      refine leastL_is cs v ?_ h0 fun c hc => hm c (List.mem_cons_of_mem _ hc)
      rcases List.mem_cons.1 h with rfl | h
      · exact absurd h0 hc
      · exact h
end
/-- What the statement asks, of a plan of k lines that is there. -/
theorem cheap_yes {l least p : Int} {s : Nat → Fl} {n most k : Nat} (hl : l = most) (hs : SOK s n) (hn : n ≤ 128) (hk : k = bestK s least p n most) (hlt : bestF s least p n k < 4611686018427387904) (hm : 1 ≤ most) :
    restO s least p n k 0 = some (bestF s least p n k) ∧ k ≤ most ∧ (n = 0 ↔ k = 0) ∧ 0 ≤ bestF s least p n k ∧ bestF s least p n k ≤ 1374252095766528 ∧
    (costV s n l least p ((planF s least p n k 0).map fun x => (x.2 : Int)) = (bestF s least p n k, 0)) ∧
    (0 < n → leastL (-1) (curveL s least p n most) = bestF s least p n k ∧ (curveL s least p n most).getD (k - 1) 0 = bestF s least p n k) ∧
    (∀ ls v, costV s n l least p ls = (v, 0) → bestF s least p n k ≤ v ∧ 0 ≤ v ∧ v ≤ 1374252095766528) ∧
    (∀ c, 0 ≤ c → c ≤ 1125899906842624 → ∃ v, priceV s n least p c = (v, 0) ∧ v ≤ bestF s least p n k + c * k ∧ ∀ ls u, costV s n l least p ls = (u, 0) → v ≤ u + c * ls.length) := by
  have hr : restO s least p n k 0 = some (bestF s least p n k) := by
    unfold bestF at hlt ⊢
    cases e : restO s least p n k 0 with
    | none => rw [e] at hlt; exact absurd hlt (by decide)
    | some v => rfl
  have hb := restO_bd hs k 0 _ (Nat.zero_le _) hr
  have hkm : k ≤ most := by
    rw [hk]; unfold bestK
    rcases kB_lt (bestF s least p n) (most + 1) with h1 | h1 <;> omega
  have hmin : ∀ m v, m ≤ most → restO s least p n m 0 = some v → bestF s least p n k ≤ v := by
    intro m v hm e
    have h1 := kB_min (bestF s least p n) (most + 1) m (by omega)
    unfold bestK at hk
    rw [← hk] at h1
    have h2 : bestF s least p n m = v := by unfold bestF; rw [e]; rfl
    omega
  have hn0 : n = 0 ↔ k = 0 := by
    constructor
    · intro e
      cases k with
      | zero => rfl
      | succ k =>
        unfold restO at hr
        subst e
        cases hr
    · intro e
      subst e
      unfold restO at hr
      split at hr
      · omega
      · cases hr
  have hcost : ∀ ls v, costV s n l least p ls = (v, 0) → ls.length ≤ most ∧ ls.length ≤ 128 ∧ ∃ u, restO s least p n ls.length 0 = some u ∧ u ≤ v ∧ 0 ≤ u := by
    intro ls v h
    unfold costV at h
    split at h
    · simp at h
    · split at h
      · rename_i h2
        split at h
        · simp at h
        · split at h
          · simp at h
          · rename_i v' e
            simp only [Prod.mk.injEq, and_true] at h
            subst h
            obtain ⟨u, e1, e2⟩ := sumC_rest ls 0 v' (Nat.zero_le _) (by simpa using h2) e
            exact ⟨by omega, by omega, u, e1, e2, (restO_bd hs _ 0 _ (Nat.zero_le _) e1).1⟩
      · simp at h
  have hps := plan_sumC k 0 (Nat.zero_le _) (by rw [hr]; simp)
  have hlenp : ((planF s least p n k 0).map fun x => (x.2 : Int)).length = k := by
    rw [List.length_map]
    have : ∀ k i, (planF s least p n k i).length = k := by
      intro k
      induction k with
      | zero => intro i; rfl
      | succ k ih => intro i; rw [planF, List.length_cons, ih]
    exact this k 0
  have hup : ∀ (ls : List Int) (i : Nat) (v : Int), i ≤ n → chkL ((n : Int) - i) ls = some 0 → sumC s least p i ls = some v → 0 ≤ v ∧ v ≤ ((n : Int) - i) * 10736344498176 := by
    intro ls
    induction ls with
    | nil =>
      intro i v hi h1 h2
      simp only [sumC, Option.some.injEq] at h2
      subst h2
      exact ⟨by omega, Int.mul_nonneg (by omega) (by decide)⟩
    | cons a ls ih =>
      intro i v hi h1 h2
      unfold chkL at h1
      split at h1
      · cases h1
      · unfold sumC at h2
        obtain ⟨x, y, e1, e2, rfl⟩ := addO_some h2
        have b1 := cO_bd hs (by omega) (by omega) e1
        have b2 := ih (i + a.toNat) y (by omega) (by rw [show (n : Int) - (i + a.toNat : Nat) = n - i - a by omega]; exact h1) e2
        omega
  have hkb : k ≤ n := by
    have : ∀ (k i : Nat), i ≤ n → restO s least p n k i ≠ none → k ≤ n - i := by
      intro k
      induction k with
      | zero => intro i _ _; omega
      | succ k ih =>
        intro i hi h
        have h1 := (cut_ok h).2
        have := ih _ (by omega) (cut_some h).2
        omega
    exact this k 0 (Nat.zero_le _) (by rw [hr]; simp)
  refine ⟨hr, hkm, hn0, hb.1, by have := hb.2; omega, ?_, fun hpos => ?_, fun ls v h => ?_, fun c hc1 hc2 => ?_⟩
  · unfold costV
    rw [hlenp, if_neg (by omega), if_pos (by simpa using hps.2), if_neg (by omega), hps.1, hr]
  · have hk1 : 1 ≤ k := by
      rcases Nat.eq_zero_or_pos k with e | e
      · exact absurd (hn0.2 e) (by omega)
      · exact e
    have hg : (curveL s least p n most).getD (k - 1) 0 = bestF s least p n k := by
      rw [curveL_get (by omega), show k - 1 + 1 = k by omega, hr]; rfl
    refine ⟨leastL_is _ _ ?_ hb.1 fun c hc h0 => ?_, hg⟩
    · rw [← hg, List.getD_eq_getElem?_getD, List.getElem?_eq_getElem (by rw [curveL_length]; omega)]
      exact List.getElem_mem _
    · unfold curveL at hc
      obtain ⟨m, hm1, rfl⟩ := List.mem_map.1 hc
      have hm2 := List.mem_range.1 hm1
      cases e : restO s least p n (m + 1) 0 with
      | none => rw [e] at h0; exact absurd h0 (by decide)
      | some v => exact hmin (m + 1) v (by omega) e
  · obtain ⟨h1, h2, u, e1, e2, e3⟩ := hcost ls v h
    have h3 := hmin _ _ h1 e1
    refine ⟨by omega, by omega, ?_⟩
    unfold costV at h
    rw [if_neg (by omega)] at h
    split at h
    · rename_i hch
      rw [if_neg (by omega)] at h
      split at h
      · simp at h
      · rename_i v' e
        simp only [Prod.mk.injEq, and_true] at h
        subst h
        have := hup ls 0 v' (Nat.zero_le _) (by simpa using hch) e
        omega
    · simp at h
  · obtain ⟨v, e1, e2⟩ := price_le (c := c) k 0 _ (Nat.zero_le _) hr
    refine ⟨v, ?_, e2, fun ls u h => ?_⟩
    · unfold priceV
      rw [if_neg (by omega), e1]
    · obtain ⟨_, _, u', e3, e4, _⟩ := hcost ls u h
      obtain ⟨v', e5, e6⟩ := price_le (c := c) ls.length 0 _ (Nat.zero_le _) e3
      rw [e1] at e5
      cases e5
      omega
/-- Where there is no plan, no division is one. -/
theorem cheap_no {s : Nat → Fl} {n most : Nat} {l least p : Int} (hl : l = most) (hs : SOK s n) (hn : n ≤ 128) (h : ¬ bestF s least p n (bestK s least p n most) < 4611686018427387904) (ls : List Int) : (costV s n l least p ls).2 ≠ 0 := by
  intro he
  unfold costV at he
  split at he
  · exact absurd he (by decide)
  · split at he
    · rename_i h2
      split at he
      · exact absurd he (by decide)
      · split at he
        · exact absurd he (by decide)
        · rename_i v e
          obtain ⟨u, e1, _⟩ := sumC_rest ls 0 v (Nat.zero_le _) (by simpa using h2) e
          have h1 := kB_min (bestF s least p n) (most + 1) ls.length (by omega)
          have h3 : bestF s least p n ls.length = u := by unfold bestF; rw [e1]; rfl
          have h4 := (restO_bd hs _ 0 _ (Nat.zero_le _) e1).2
          unfold bestK at h
          omega
    · exact absurd he (by decide)
end Go.Proofs.Ythkfahkkcjagdaa
namespace Go.Proofs.Ythkfahkkcjagdaa
open Go.RowKit Go.Proofs.YthkfahkkcjagdaaW.PrintWords Go.Proofs.YthkfahkkcjagdaaW.PrintMore Go.Proofs.YthkfahkkcjagdaaW.PrintLast

section
variable (s : Nat → Fl) (least p c : Int) (n : Nat)
/-- The row of prices when the places from i on are filled in; and when the runs up to d of place i were looked at. -/
def prRow (i : Nat) : List Int := (List.range (n + 1)).map fun x => if x < i then 0 else pE (priceO s least p c n x)
def prPart (i d : Nat) : List Int := (List.range (n + 1)).map fun x => if x < i then 0 else if x = i then pE (minO (fun d => addO (addO (cO s least p i (d + 1)) (some c)) (priceO s least p c n (i + d + 1))) d) else pE (priceO s least p c n x)
theorem prRow_length (i : Nat) : (prRow s least p c n i).length = n + 1 := by simp [prRow]
theorem prPart_length (i d : Nat) : (prPart s least p c n i d).length = n + 1 := by simp [prPart]
theorem prRow_init : List.replicate (n + 1) 0 = prRow s least p c n n := by
  refine List.ext_getElem? fun j => ?_
  unfold prRow
  rw [List.getElem?_map, List.getElem?_replicate]
  by_cases hj : j < n + 1
  · rw [List.getElem?_range hj, if_pos hj]
    show some 0 = some (if j < n then 0 else pE (priceO s least p c n j))
    by_cases h : j < n
    · rw [if_pos h]
    · rw [if_neg h, show j = n by omega, priceO_end]; rfl
  · rw [List.getElem?_eq_none (by simp; omega), if_neg hj]; rfl
theorem prPart_init {i : Nat} (hi : i < n) : (prRow s least p c n (i + 1)).set i 4611686018427387904 = prPart s least p c n i 0 := by
  unfold prRow prPart
  refine map_set_range _ _ _ _ _ (by omega) ?_ fun j hj hne => ?_
  · rw [if_neg (by omega), if_pos rfl]; rfl
  · by_cases h : j < i
    · rw [if_pos h, if_pos (by omega)]
    · rw [if_neg h, if_neg hne, if_neg (by omega)]
theorem prPart_set {i d : Nat} (hi : i < n) : (prPart s least p c n i d).set i (pE (minO (fun d => addO (addO (cO s least p i (d + 1)) (some c)) (priceO s least p c n (i + d + 1))) (d + 1))) = prPart s least p c n i (d + 1) := by
  unfold prPart
  refine map_set_range _ _ _ _ _ (by omega) ?_ fun j hj hne => ?_
  · rw [if_neg (by omega), if_pos rfl]
  · by_cases h : j < i
    · rw [if_pos h, if_pos h]
    · rw [if_neg h, if_neg hne, if_neg h, if_neg hne]
theorem prPart_same {i d : Nat} (h : addO (addO (cO s least p i (d + 1)) (some c)) (priceO s least p c n (i + d + 1)) = none) : prPart s least p c n i d = prPart s least p c n i (d + 1) := by
  unfold prPart
  refine List.map_congr_left fun j _ => ?_
  have e : minO (fun d => addO (addO (cO s least p i (d + 1)) (some c)) (priceO s least p c n (i + d + 1))) (d + 1) = minO (fun d => addO (addO (cO s least p i (d + 1)) (some c)) (priceO s least p c n (i + d + 1))) d := by
    show omin _ (addO (addO (cO s least p i (d + 1)) (some c)) (priceO s least p c n (i + d + 1))) = _
    rw [h]
    cases minO (fun d => addO (addO (cO s least p i (d + 1)) (some c)) (priceO s least p c n (i + d + 1))) d <;> rfl
  rw [e]
theorem prPart_last {i : Nat} (hi : i < n) : prPart s least p c n i (n - i) = prRow s least p c n i := by
  unfold prPart prRow
  refine List.map_congr_left fun j _ => ?_
  by_cases h : j < i
  · rw [if_pos h, if_pos h]
  · rw [if_neg h, if_neg h]
    by_cases e : j = i
    · rw [if_pos e, e, priceO_at hi]
    · rw [if_neg e]
theorem prPart_own {i d : Nat} (hi : i < n) : (prPart s least p c n i d).getD i 0 = pE (minO (fun d => addO (addO (cO s least p i (d + 1)) (some c)) (priceO s least p c n (i + d + 1))) d) := by
  unfold prPart
  rw [range_map_get _ (by omega), if_neg (by omega), if_pos rfl]
theorem prPart_at {i d j : Nat} (hi : i < j) (hj : j ≤ n) : (prPart s least p c n i d).getD j 0 = pE (priceO s least p c n j) := by
  unfold prPart
  rw [range_map_get _ (by omega), if_neg (by omega), if_neg (by omega)]
theorem prRow_at {i j : Nat} (hi : i ≤ j) (hj : j ≤ n) : (prRow s least p c n i).getD j 0 = pE (priceO s least p c n j) := by
  unfold prRow
  rw [range_map_get _ (by omega), if_neg (by omega)]
end
theorem price_bd {s : Nat → Fl} {least p c : Int} {n : Nat} (h : SOK s n) (hc : 0 ≤ c) : ∀ (k i : Nat) (v : Int), n - i ≤ k → i ≤ n → priceO s least p c n i = some v → 0 ≤ v ∧ v ≤ ((n : Int) - i) * (10736344498176 + c)
  | 0, i, v, hk, hi, hv => by
    have : i = n := by omega
    subst this
    rw [priceO_end] at hv
    cases hv
    exact ⟨by omega, by rw [Int.sub_self, Int.zero_mul]; omega⟩
  | k + 1, i, v, hk, hi, hv => by
    rcases Nat.lt_or_ge i n with h1 | h1
    · rw [priceO_at h1] at hv
      obtain ⟨⟨d, hd, e⟩, _⟩ := minO_le _ _ _ hv
      obtain ⟨x, y, e1, e2, rfl⟩ := addO_some e
      obtain ⟨x1, y1, e3, e4, rfl⟩ := addO_some e1
      cases e4
      have b1 := cO_bd h (by omega) (by omega) e3
      have b2 := price_bd h hc k (i + d + 1) y (by omega) (by omega) e2
      have b3 : 0 ≤ ((d : Int)) * c := Int.mul_nonneg (by omega) hc
      have e5 : ((n : Int) - i) * (10736344498176 + c) = ((n : Int) - (i + d + 1 : Nat)) * (10736344498176 + c) + (d + 1) * 10736344498176 + d * c + c := by
        have : (n : Int) - i = ((n : Int) - (i + d + 1 : Nat)) + (d + 1) := by omega
        rw [this, Int.add_mul ((n : Int) - (i + d + 1 : Nat)), Int.mul_add ((d : Int) + 1), Int.add_mul (d : Int) 1 c, Int.one_mul]
        omega
      omega
    · have : i = n := by omega
      subst this
      rw [priceO_end] at hv
      cases hv
      exact ⟨by omega, by rw [Int.sub_self, Int.zero_mul]; omega⟩
theorem price_top {n i : Nat} {c : Int} (hn : n ≤ 128) (hc : 0 ≤ c ∧ c ≤ 1125899906842624) {v : Int} (h : 0 ≤ v ∧ v ≤ ((n : Int) - i) * (10736344498176 + c)) : 0 ≤ v ∧ v ≤ 145489440171622400 := by
  refine ⟨h.1, Int.le_trans h.2 ?_⟩
  have h1 : ((n : Int) - i) * (10736344498176 + c) ≤ 128 * (10736344498176 + c) := Int.mul_le_mul_of_nonneg_right (by omega) (by omega)
  omega

set_option maxHeartbeats 8000000 in
set_option maxRecDepth 100000 in
theorem price_any (w : World) (A : Option Addr) (n cf : Nat) (fs : List Fl) (hn0 : fs.length = n) (h : kF.C w A n fs) (hk : KOK fs) (l least p c : Int) :
    Calls Try.prog 35 #[.slice A n cf, .agg #[.int .i64 l, .int .i64 least, .int .i64 p], .int .i64 c] w fun e w' => e = .returned (.tuple #[.int .i64 (priceR fs l least p c).1, .int .i64 (priceR fs l least p c).2]) ∧ Below w.heap.size w w' := by
  subst hn0
  have b1 := below_alloc (Below.refl w.heap.size w) (.cells #[.int .i64 l, .int .i64 least, .int .i64 p] 24)
  have q1 := Blk.new w [.int .i64 l, .int .i64 least, .int .i64 p] 24
  have s0 := q1.at_ (i := 0) rfl
  have s1 := q1.at_ (i := 1) rfl
  have s2 := q1.at_ (i := 2) rfl
  have hl := laid_any _ A cf fs (Kd.C_below h b1) hk l least p
  have HB := Aside0.mk b1
  have HL := Aside0.mk hl
  by_cases hE : errE fs l least p = 0
  · have hR : priceR fs l least p c = priceV (sF fs (ordF fs)) fs.length least p c := by unfold priceR; rw [if_pos hE]
    rw [hR]
    have hn := (errE_all hE).1
    have HSO := Aside0.mk (ordF_SOK (errE_all hE).2)
    obtain ⟨s, hs0⟩ : ∃ z, z = sF fs (ordF fs) := ⟨_, rfl⟩
    obtain ⟨n, hn0⟩ : ∃ z, z = fs.length := ⟨_, rfl⟩
    have HN := Aside0.mk hn0
    have HSS := Aside0.mk hs0
    have HE := Aside0.mk hE
    rw [← hn0] at hn
    rw [← hs0, ← hn0] at HSO ⊢
    rw [← hn0] at HL
    clear h hk b1 q1 hl hR hn0 hs0 hE
    by_cases hc0 : c < 0 ∨ 1125899906842624 < c
    · have HV : Aside0 (priceV s n least p c = (0, 2)) := ⟨if_pos hc0⟩
      rw [HV.out]
      by_cases hc1 : c < 0
      · have d1 : decide (c < 0) = true := decide_eq_true hc1
        clear hc0
        go_enter Try.func35, Try.ntmps35
        go_wp2_with ((with_reducible refine HL.out.mono ?_); rintro e5 w5 hp5; unfold LaidPost at hp5; rw [if_pos HE.out] at hp5; obtain ⟨hb5, bt, o, cv, ev, r1s, r2s, rfl, ht5, hr5⟩ := hp5; have HB5 := Aside0.mk (below_step HB.out hb5); clear hb5 ht5 hr5)
        refine bodyPost_ret (v := .tuple #[.int .i64 0, .int .i64 2]) (by simp [results, Try.results35, go_sem]) rfl ?_
        exact ⟨rfl, HB5.out⟩
      · have hc2 : c > 1125899906842624 := by omega
        have d1 : decide (c < 0) = false := decide_eq_false hc1
        have d2 : decide (c > 1125899906842624) = true := decide_eq_true hc2
        clear hc0
        go_enter Try.func35, Try.ntmps35
        go_wp2_with ((with_reducible refine HL.out.mono ?_); rintro e5 w5 hp5; unfold LaidPost at hp5; rw [if_pos HE.out] at hp5; obtain ⟨hb5, bt, o, cv, ev, r1s, r2s, rfl, ht5, hr5⟩ := hp5; have HB5 := Aside0.mk (below_step HB.out hb5); clear hb5 ht5 hr5)
        refine bodyPost_ret (v := .tuple #[.int .i64 0, .int .i64 2]) (by simp [results, Try.results35, go_sem]) rfl ?_
        exact ⟨rfl, HB5.out⟩
    · have hcc : 0 ≤ c ∧ c ≤ 1125899906842624 := by omega
      have HV : Aside0 (priceV s n least p c = match priceO s least p c n 0 with | none => (0, 13) | some v => (v, 0)) := ⟨if_neg hc0⟩
      have d1 : decide (c < 0) = false := decide_eq_false (by omega)
      have d2 : decide (c > 1125899906842624) = false := decide_eq_false (by omega)
      have mk1 := print_make (P := Try.prog) 35 3 .i64 8 Try.underlying35 info3 (by decide) (n + 1) (by omega)
      rw [show ((n + 1 : Nat) : Int) = (n : Int) + 1 by omega] at mk1
      clear hc0
      go_enter Try.func35, Try.ntmps35
      go_upto_region 6 with ((with_reducible refine HL.out.mono ?_); rintro e5 w5 hp5; unfold LaidPost at hp5; rw [if_pos HE.out] at hp5; obtain ⟨hb5, bt, o, cv, ev, r1s, r2s, rfl, ht5, hr5⟩ := hp5; have H5 := Aside0.mk (And.intro ht5 (And.intro hr5 (below_step HB.out hb5))); clear hb5 ht5 hr5)
      clear s0 s1 s2 d1 d2
      have ct1 := H5.out.1.tb.t.at_ (i := 1) rfl
      rw [← HN.out] at ct1
      go_upto_region 8 with fail
      clear ct1 mk1
      rw [made_ints]
      have h7 : Blk (w5.alloc (.cells (ints (List.replicate (n + 1) 0)).toArray 3)) w5.heap.size (ints (prRow s least p c n n)) 3 ∧ Below w5.heap.size w5 (w5.alloc (.cells (ints (List.replicate (n + 1) 0)).toArray 3)) := by
        rw [prRow_init s least p c n]
        exact ⟨Blk.new w5 _ 3, below_alloc (Below.refl _ _) _⟩
      generalize (w5.alloc (.cells (ints (List.replicate (n + 1) 0)).toArray 3)) = w7 at h7 ⊢
      obtain ⟨r, hr⟩ : ∃ z, z = w5.heap.size := ⟨_, rfl⟩
      rw [← hr] at h7
      have HR := Aside0.mk hr
      rw [← hr]
      have H7 := Aside0.mk h7; clear h7 hr
      go_wp2_with fail
      go_loopw [12, 13] (fun v12 _ wr => ∃ i : Nat, v12 = .int .i64 ((i : Int) - 1) ∧ i ≤ n ∧ Aside0 (Blk wr r (ints (prRow s least p c n i)) 3 ∧ Below r w5 wr)) (fun v12 _ _ => (intOf v12 + 1).toNat)
      case atStart => exact ⟨n, by go_num, by omega, ⟨H7.out.1, H7.out.2⟩⟩
      case round =>
        obtain ⟨i, rfl, hi, HI⟩ := hrel
        clear H7
        rcases i with _ | i
        · have hz := HI.out.1.at_ (ints_get (prRow s least p c n 0) (i := 0) (by rw [prRow_length]; omega))
          rw [prRow_at _ _ _ _ _ (Nat.le_refl _) (Nat.zero_le _)] at hz
          have hbd := fun v (hv : priceO s least p c n 0 = some v) => price_top (i := 0) hn hcc (price_bd (by rw [HN.out, HSS.out]; rw [← HN.out, ← HSS.out]; exact HSO.out) hcc.1 n 0 v (by omega) (by omega) hv)
          have hpl := pE_lt (b := 145489440171622400) hbd (by decide)
          obtain ⟨x, hx⟩ : ∃ z, z = pE (priceO s least p c n 0) := ⟨_, rfl⟩
          rw [← hx] at hz hpl
          have HX := Aside0.mk hx; clear hx hbd
          have h00 : (((0 : Nat) : Int)) = 0 := rfl
          by_cases hxl : x < 4611686018427387904
          · have dx : decide (4611686018427387904 ≤ x) = false := decide_eq_false (by omega)
            have HY : Aside0 (priceO s least p c n 0 = some x) := ⟨by
              have h1 := hpl.1 hxl
              cases e : priceO s least p c n 0 with
              | none => exact absurd e h1
              | some v => rw [HX.out, e]; rfl⟩
            clear hpl
            go_wp2_with fail
            refine bodyPost_ret (v := .tuple #[.int .i64 x, .int .i64 0]) (by simp [results, Try.results35, go_sem]) rfl ?_
            refine ⟨?_, below_step H5.out.2.2 (by rw [← HR.out]; exact HI.out.2)⟩
            rw [HV.out, HY.out]
          · have dx : decide (4611686018427387904 ≤ x) = true := decide_eq_true (by omega)
            have HY : Aside0 (priceO s least p c n 0 = none) := ⟨by
              cases e : priceO s least p c n 0 with
              | none => rfl
              | some v => exact absurd (hpl.2 (by rw [e]; simp)) hxl⟩
            clear hpl
            go_wp2_with fail
            refine bodyPost_ret (v := .tuple #[.int .i64 0, .int .i64 13]) (by simp [results, Try.results35, go_sem]) rfl ?_
            refine ⟨?_, below_step H5.out.2.2 (by rw [← HR.out]; exact HI.out.2)⟩
            rw [HV.out, HY.out]
        · have hi1 : ((i + 1 : Nat) : Int) - 1 = i := by omega
          have hlt : i < n := by omega
          have cc := HI.out.1.at_ (ints_get (prRow s least p c n (i + 1)) (i := i) (by rw [prRow_length]; omega))
          have cf2 := HI.out.1.free i
          obtain ⟨y0, hy0⟩ : ∃ z, z = (prRow s least p c n (i + 1)).getD i 0 := ⟨_, rfl⟩
          rw [← hy0] at cc
          clear hy0
          rw [hi1]
          have hz1 : (0 : Int) ≤ (i : Int) := by omega
          have hz2 : (i : Int) < (n : Int) + 1 := by omega
          have hz3 : i < n + 1 := by omega
          go_upto_region 12 with fail
          clear cc cf2
          have h8 : Blk (wr.setCell ⟨r, i, none⟩ (.int .i64 4611686018427387904)) r (ints (prPart s least p c n i 0)) 3 ∧ Below r w5 (wr.setCell ⟨r, i, none⟩ (.int .i64 4611686018427387904)) := by
            refine ⟨?_, HI.out.2.setCell (Nat.le_refl _) _⟩
            have := HI.out.1.set i (.int .i64 4611686018427387904)
            rwa [ints_set, prPart_init _ _ _ _ _ hlt] at this
          generalize (wr.setCell ⟨r, i, none⟩ (.int .i64 4611686018427387904)) = w8 at h8 ⊢
          have H8 := Aside0.mk h8; clear h8 HI
          go_wp2_with fail
          go_loopw [13] (fun v13 wr => ∃ d : Nat, v13 = .int .i64 ((i : Int) + 1 + d) ∧ d ≤ n - i ∧ Aside0 (Blk wr r (ints (prPart s least p c n i d)) 3 ∧ Below r w5 wr)) (fun v13 _ => n + 1 - (intOf v13).toNat)
          case atStart => exact ⟨0, by go_num, by omega, ⟨H8.out.1, H8.out.2⟩⟩
          case round =>
            obtain ⟨d, rfl, hd, HD⟩ := hrel
            clear H8
            by_cases hld : d < n - i
            · have hldi : (i : Int) + 1 + d ≤ n := by omega
              have hb5 : Below w5.heap.size w5 wr := by rw [← HR.out]; exact HD.out.2
              have ht := H5.out.1.below hb5
              obtain ⟨g, cap, ecv, hcap, g1, g2⟩ := ht.cost (a := i) (j := i + 1 + d) (by rw [H5.out.2.1, ← HN.out]; exact hlt) (by rw [← HN.out]; omega)
              rw [H5.out.2.1, ← HN.out] at ecv hcap
              rw [← HN.out] at g1 g2
              rw [← HSS.out] at g2
              rw [show (crowF s least p n i).getD (i + 1 + d) 0 = pE (cO s least p i (d + 1)) by
                unfold crowF
                rw [crow_get _ _ _ _ _ _ (by omega), if_pos (by omega), show i + 1 + d - i = d + 1 by omega]] at g2
              have ct := ht.tb.t.at_ (i := 2) rfl
              have cr1 := HD.out.1.at_ (ints_get _ (show i + 1 + d < (prPart s least p c n i d).length by rw [prPart_length]; omega))
              rw [prPart_at _ _ _ _ _ (by omega) (by omega), show i + 1 + d = i + d + 1 by omega] at cr1
              have cc := HD.out.1.at_ (ints_get _ (show i < (prPart s least p c n i d).length by rw [prPart_length]; omega))
              rw [prPart_own _ _ _ _ _ hlt] at cc
              have cf := HD.out.1.free i
              have bx := fun v (h : cO s least p i (d + 1) = some v) => cO_bd HSO.out (by omega) (by omega) h
              have by_ := fun v (h : priceO s least p c n (i + d + 1) = some v) => price_top (i := i + d + 1) hn hcc (price_bd HSO.out hcc.1 n (i + d + 1) v (by omega) (by omega) h)
              have hx := pE_lt (b := 1374252095766528) (fun v h => ⟨(bx v h).1, by have := (bx v h).2; omega⟩) (by decide)
              have hy := pE_lt (b := 145489440171622400) by_ (by decide)
              obtain ⟨x, hxx⟩ : ∃ z, z = pE (cO s least p i (d + 1)) := ⟨_, rfl⟩
              obtain ⟨y, hyy⟩ : ∃ z, z = pE (priceO s least p c n (i + d + 1)) := ⟨_, rfl⟩
              obtain ⟨u, huu⟩ : ∃ z, z = pE (minO (fun d => addO (addO (cO s least p i (d + 1)) (some c)) (priceO s least p c n (i + d + 1))) d) := ⟨_, rfl⟩
              rw [← hxx] at g2 hx
              rw [← hyy] at cr1 hy
              rw [← huu] at cc
              obtain ⟨ri, hri⟩ : ∃ z, z = r1s.getD i 0 := ⟨_, rfl⟩
              rw [← hri] at g1 g2
              clear hri
              have cr1b := cr1
              rw [show i + d + 1 = i + 1 + d by omega] at cr1b
              have HXY := Aside0.mk (And.intro hxx (And.intro hyy (And.intro huu (And.intro bx by_))))
              subst ecv
              clear bx by_ hxx hyy huu ht hb5
              have q4 : (0 : Int) ≤ (i : Int) + 1 + d := by omega
              have q5 : (i : Int) + 1 + d < (n : Int) + 1 := by omega
              have q7 : i + 1 + d < n + 1 := by omega
              have q8 : ((i : Int) + 1 + d).toNat = i + 1 + d := by omega
              by_cases hx1 : x < 4611686018427387904
              · have hx2 := hx.1 hx1
                have dx : decide (x < 4611686018427387904) = true := decide_eq_true hx1
                by_cases hy1 : y < 4611686018427387904
                · have hy2 := hy.1 hy1
                  have dy : decide (y < 4611686018427387904) = true := decide_eq_true hy1
                  have hnew : pE (minO (fun d => addO (addO (cO s least p i (d + 1)) (some c)) (priceO s least p c n (i + d + 1))) (d + 1)) = min u (x + c + y) ∧ (0 ≤ x ∧ x ≤ 1374252095766528) ∧ 0 ≤ y ∧ y ≤ 145489440171622400 := by
                    obtain ⟨a1, a2, a3, a4, a5⟩ := HXY.out
                    cases e1 : cO s least p i (d + 1) with
                    | none => exact absurd e1 hx2
                    | some x' =>
                      cases e2 : priceO s least p c n (i + d + 1) with
                      | none => exact absurd e2 hy2
                      | some y' =>
                        have b1 := a4 x' e1
                        have b2 := a5 y' e2
                        rw [e1] at a1
                        rw [e2] at a2
                        have f1 : x = x' := a1
                        have f2 : y = y' := a2
                        refine ⟨?_, by omega, by omega⟩
                        show pE (omin _ (addO (addO (cO s least p i (d + 1)) (some c)) (priceO s least p c n (i + d + 1)))) = _
                        rw [e1, e2, a3]
                        show pE (omin _ (some (x' + c + y'))) = _
                        rw [f1, f2]
                        cases minO (fun d => addO (addO (cO s least p i (d + 1)) (some c)) (priceO s least p c n (i + d + 1))) d with
                        | none => show x' + c + y' = min 4611686018427387904 (x' + c + y'); omega
                        | some z => rfl
                  obtain ⟨hnew, ⟨hx3, hx4⟩, hy3, hy4⟩ := hnew
                  have HNEW := Aside0.mk hnew
                  clear hx hy hx2 hy2 hnew
                  have q9 : IntKind.i64.wrap (x + c) = x + c := IntWalk.i64_in _ (by omega)
                  have q10 : IntKind.i64.wrap (x + c + y) = x + c + y := IntWalk.i64_in _ (by omega)
                  go_upto_region 16 with fail
                  go_still_tail 25, (by kernel_rfl)
                  change wpList _ _ _ _ _ wr.drew
                  go_wp2_with fail
                  go_roundw
                  case rel =>
                    have hmn : min u (x + c + y) = if x + c + y < u then x + c + y else u := by split <;> omega
                    have hz := HD.out.1.set i (.int .i64 (min u (x + c + y)))
                    rw [ints_set, ← HNEW.out, prPart_set _ _ _ _ _ hlt, HNEW.out] at hz
                    exact ⟨d + 1, by go_num, by omega, ⟨hz.drew, below_drew (HD.out.2.setCell (p := ⟨r, i, none⟩) (Nat.le_refl r) _)⟩⟩
                  case measure => simp [intOf]; omega
                · have dy : decide (y < 4611686018427387904) = false := decide_eq_false hy1
                  have hno : addO (addO (cO s least p i (d + 1)) (some c)) (priceO s least p c n (i + d + 1)) = none := by
                    cases e2 : priceO s least p c n (i + d + 1) with
                    | none => cases addO (cO s least p i (d + 1)) (some c) <;> rfl
                    | some y' => exact absurd (hy.2 (by rw [e2]; simp)) hy1
                  have HNO := Aside0.mk hno; clear hno hx hy hx2
                  go_wp2_with fail
                  go_roundw
                  case rel => exact ⟨d + 1, by go_num, by omega, ⟨by rw [← prPart_same _ _ _ _ _ HNO.out]; exact HD.out.1, HD.out.2⟩⟩
                  case measure => simp [intOf]; omega
              · have dx : decide (x < 4611686018427387904) = false := decide_eq_false hx1
                have hno : addO (addO (cO s least p i (d + 1)) (some c)) (priceO s least p c n (i + d + 1)) = none := by
                  cases e1 : cO s least p i (d + 1) with
                  | none => rfl
                  | some x' => exact absurd (hx.2 (by rw [e1]; simp)) hx1
                have HNO := Aside0.mk hno; clear hno hx hy
                go_wp2_with fail
                go_roundw
                case rel => exact ⟨d + 1, by go_num, by omega, ⟨by rw [← prPart_same _ _ _ _ _ HNO.out]; exact HD.out.1, HD.out.2⟩⟩
                case measure => simp [intOf]; omega
            · have hldi : ¬ (i : Int) + 1 + d ≤ n := by omega
              go_wp2_with fail
              go_roundw
              case rel => exact ⟨i, by go_num, by omega, ⟨by rw [← prPart_last _ _ _ _ _ hlt, show n - i = d by omega]; exact HD.out.1, HD.out.2⟩⟩
              case measure => simp [intOf]
  · obtain ⟨e0, he0⟩ : ∃ z, z = errE fs l least p := ⟨_, rfl⟩
    have hz : (e0 != 0) = true := by rw [he0]; simpa using hE
    have hR : priceR fs l least p c = (0, e0) := by unfold priceR; rw [if_neg hE, ← he0]
    rw [hR]
    have HE0 := Aside0.mk he0
    have HE := Aside0.mk hE
    clear h hk b1 q1 hl hE he0 hR
    go_enter Try.func35, Try.ntmps35
    go_wp2_with ((with_reducible refine HL.out.mono ?_); rintro e5 w5 hp5; unfold LaidPost at hp5; rw [if_neg HE.out] at hp5; obtain ⟨hb5, rfl⟩ := hp5; have HB5 := Aside0.mk (below_step HB.out hb5); clear hb5; rw [← HE0.out])
    refine bodyPost_ret (v := .tuple #[.int .i64 0, .int .i64 e0]) (by simp [results, Try.results35, go_sem]) rfl ?_
    exact ⟨rfl, HB5.out⟩
end Go.Proofs.Ythkfahkkcjagdaa
namespace Go.Proofs.Ythkfahkkcjagdaa
open Go.RowKit Go.Proofs.YthkfahkkcjagdaaW.PrintWords Go.Proofs.YthkfahkkcjagdaaW.PrintMore Go.Proofs.YthkfahkkcjagdaaW.PrintLast

theorem laid_short (w : World) (A : Option Addr) (n cf : Nat) (fs : List Fl) (hn : fs.length = n) (h : kF.C w A n fs) (hk : KOK fs) (l least p : Int) :
    Calls Try.prog 61 #[.slice A n cf, .agg #[.int .i64 l, .int .i64 least, .int .i64 p]] w (LaidPost fs A cf l least p w) := by
  subst hn
  exact laid_any w A cf fs h hk l least p
theorem rd_drop (xs : List Int) {j : Nat} (h : j < xs.length) : xs.drop j = rd xs j :: xs.drop (j + 1) := by
  have := drop_rd xs (j : Int) (by omega) (by omega)
  rwa [Int.toNat_natCast, show ((j : Int) + 1).toNat = j + 1 by omega] at this
set_option maxHeartbeats 8000000 in
set_option maxRecDepth 100000 in
theorem cost_any (w : World) (A B : Option Addr) (n cf m cl : Nat) (fs : List Fl) (ls : List Int) (hn0 : fs.length = n) (h : kF.C w A n fs) (hk : KOK fs) (hm : (Kd.int .i64).C w B m ls) (l least p : Int) :
    Calls Try.prog 33 #[.slice A n cf, .agg #[.int .i64 l, .int .i64 least, .int .i64 p], .slice B m cl] w fun e w' => e = .returned (.tuple #[.int .i64 (costR fs l least p ls).1, .int .i64 (costR fs l least p ls).2]) ∧ Below w.heap.size w w' := by
  have b1 := below_alloc (Below.refl w.heap.size w) (.cells #[.int .i64 l, .int .i64 least, .int .i64 p] 24)
  have q1 := Blk.new w [.int .i64 l, .int .i64 least, .int .i64 p] 24
  have s0 := q1.at_ (i := 0) rfl
  have s1 := q1.at_ (i := 1) rfl
  have s2 := q1.at_ (i := 2) rfl
  have hl := laid_short _ A n cf fs hn0 (Kd.C_below h b1) hk l least p
  have HB := Aside0.mk (And.intro b1 q1)
  have HL := Aside0.mk hl
  by_cases hE : errE fs l least p = 0
  · have hR : costR fs l least p ls = costV (sF fs (ordF fs)) n l least p ls := by unfold costR; rw [if_pos hE, hn0]
    rw [hR]
    have hn := (errE_all hE).1
    rw [hn0] at hn
    have HSO := Aside0.mk (ordF_SOK (errE_all hE).2)
    obtain ⟨s, hs0⟩ : ∃ z, z = sF fs (ordF fs) := ⟨_, rfl⟩
    have HN := Aside0.mk hn0
    have HSS := Aside0.mk hs0
    have HE := Aside0.mk hE
    have hml := Kd.C_len hm
    have hmx := Kd.C_max hm
    rw [← hs0, hn0] at HSO
    rw [← hs0]
    have HM := Aside0.mk (Kd.C_below hm b1)
    have HML := Aside0.mk hml
    clear h hk b1 q1 hl hR hn0 hs0 hE hm
    by_cases h128 : (m : Int) > 128
    · have HV : Aside0 (costV s n l least p ls = (0, 3)) := ⟨if_pos (by omega)⟩
      rw [HV.out]
      clear hml
      go_enter Try.func33, Try.ntmps33
      go_wp2_with ((with_reducible refine HL.out.mono ?_); rintro e5 w5 hp5; unfold LaidPost at hp5; rw [if_pos HE.out] at hp5; obtain ⟨hb5, bt, o, cv, ev, r1s, r2s, rfl, ht5, hr5⟩ := hp5; have HB5 := Aside0.mk (below_step HB.out.1 hb5); clear hb5 ht5 hr5)
      refine bodyPost_ret (v := .tuple #[.int .i64 0, .int .i64 3]) (by simp [results, Try.results33, go_sem]) rfl ?_
      exact ⟨rfl, HB5.out⟩
    · have HV : Aside0 (costV s n l least p ls = if chkL n ls = some 0 then if l < ls.length then ((0 : Int), (13 : Int)) else match sumC s least p 0 ls with | none => (0, 13) | some v => (v, 0) else (0, 2)) := ⟨if_neg (by omega)⟩
      have hm8 : m ≤ 128 := by omega
      clear hml
      go_enter Try.func33, Try.ntmps33
      go_upto_region 7 with ((with_reducible refine HL.out.mono ?_); rintro e5 w5 hp5; unfold LaidPost at hp5; rw [if_pos HE.out] at hp5; obtain ⟨hb5, bt, o, cv, ev, r1s, r2s, rfl, ht5, hr5⟩ := hp5; have H5 := Aside0.mk (And.intro ht5 (And.intro hr5 (And.intro (below_step HB.out.1 hb5) (And.intro (HB.out.2.below hb5) (Kd.C_below HM.out hb5))))); clear hb5 ht5 hr5)
      clear s0 s1 s2
      go_wp2_with fail
      go_loopw [10, 12, 33] (fun v10 _ v33 wr => ∃ (j : Nat) (x : Int), v10 = .int .i64 x ∧ v33 = .int .i64 j ∧ j ≤ m ∧ (0 ≤ x ∧ x ≤ n) ∧ Aside0 (chkL x (ls.drop j) = chkL n ls) ∧ ∃ q, wr = w5.drewN q) (fun _ _ v33 _ => m - (intOf v33).toNat)
      case atStart => exact ⟨0, n, rfl, rfl, by omega, by omega, ⟨rfl⟩, 0, rfl⟩
      case round =>
        obtain ⟨j, x, rfl, rfl, hj, ⟨hx0, hx1⟩, HX, q, rfl⟩ := hrel
        by_cases hlt : j < m
        · have hlti : (j : Int) < m := by omega
          obtain ⟨ad, e1, g1⟩ := Kd.at_int H5.out.2.2.2.2 (j : Int) (by omega) hlti
          subst e1
          rw [Int.toNat_natCast] at g1
          have hdr := rd_drop ls (j := j) (by rw [HML.out]; exact hlt)
          obtain ⟨z, hz⟩ : ∃ z, z = rd ls j := ⟨_, rfl⟩
          rw [← hz] at g1 hdr
          have HDR := Aside0.mk hdr; clear hz hdr
          by_cases hz1 : z < 1
          · have d1 : decide (z < 1) = true := decide_eq_true hz1
            have HC : Aside0 (chkL n ls = none) := ⟨by rw [← HX.out, HDR.out, chkL, if_pos (.inl hz1)]⟩
            clear HX HDR
            go_wp2_with fail
            refine bodyPost_ret (v := .tuple #[.int .i64 0, .int .i64 2]) (by simp [results, Try.results33, go_sem]) rfl ?_
            refine ⟨?_, below_step H5.out.2.2.1 (bdN _ _)⟩
            rw [HV.out, if_neg (by rw [HC.out]; simp)]
          · have d1 : decide (z < 1) = false := decide_eq_false hz1
            by_cases hz2 : z > x
            · have d2 : decide (z > x) = true := decide_eq_true hz2
              have d3 : decide (x < z) = true := decide_eq_true hz2
              have HC : Aside0 (chkL n ls = none) := ⟨by rw [← HX.out, HDR.out, chkL, if_pos (.inr hz2)]⟩
              clear HX HDR
              go_wp2_with fail
              refine bodyPost_ret (v := .tuple #[.int .i64 0, .int .i64 2]) (by simp [results, Try.results33, go_sem]) rfl ?_
              refine ⟨?_, below_step H5.out.2.2.1 (bdN _ _)⟩
              rw [HV.out, if_neg (by rw [HC.out]; simp)]
            · have d2 : decide (z > x) = false := decide_eq_false hz2
              have d3 : decide (x < z) = false := decide_eq_false hz2
              have HC : Aside0 (chkL (x - z) (ls.drop (j + 1)) = chkL n ls) := ⟨by rw [← HX.out, HDR.out, chkL, if_neg (by omega)]⟩
              clear HX HDR
              go_wp2_with fail
              go_roundw
              case rel => exact ⟨j + 1, x - z, by go_num, by go_num, by omega, by omega, HC, q, rfl⟩
              case measure => simp [intOf]; omega
        · have hlti : ¬ (j : Int) < m := by omega
          have HC : Aside0 (chkL n ls = some x) := ⟨by
            rw [← HX.out, List.drop_of_length_le (by rw [HML.out]; omega)]
            rfl⟩
          clear HX
          by_cases hx : x = 0
          · subst hx
            have t0 := H5.out.2.2.2.1.at_ (i := 0) rfl
            by_cases hml : (m : Int) > l
            · have d1 : decide ((m : Int) > l) = true := decide_eq_true hml
              have d2 : decide (l < (m : Int)) = true := decide_eq_true hml
              go_wp2_with fail
              refine bodyPost_ret (v := .tuple #[.int .i64 0, .int .i64 13]) (by simp [results, Try.results33, go_sem]) rfl ?_
              refine ⟨?_, below_step H5.out.2.2.1 (bdN _ _)⟩
              rw [HV.out, if_pos HC.out, if_pos (by rw [HML.out]; omega)]
            · have d1 : decide ((m : Int) > l) = false := decide_eq_false hml
              have d2 : decide (l < (m : Int)) = false := decide_eq_false hml
              have HV2 : Aside0 (costV s n l least p ls = match sumC s least p 0 ls with | none => ((0 : Int), (13 : Int)) | some v => (v, 0)) := ⟨by rw [HV.out, if_pos HC.out, if_neg (by rw [HML.out]; omega)]⟩
              clear HV
              have hlti' := hlti
              go_upto_region 19 with fail
              clear t0
              obtain ⟨wq, hwq⟩ : ∃ z, z = w5.drewN q := ⟨_, rfl⟩
              have HWQ : Aside0 (Below w5.heap.size w5 wq) := ⟨by rw [hwq]; exact bdN _ _⟩
              rw [← hwq]
              clear hwq
              have ht0 := H5.out.1.below HWQ.out
              have hm0 := Kd.C_below H5.out.2.2.2.2 HWQ.out
              have HT := Aside0.mk (And.intro ht0 hm0); clear ht0 hm0
              go_wp2_with fail
              go_loopw [13, 14, 16, 57] (fun v13 v14 _ v57 wr => ∃ (j i : Nat) (x : Int), v13 = .int .i64 x ∧ v14 = .int .i64 i ∧ v57 = .int .i64 j ∧ j ≤ m ∧ i ≤ n ∧ (0 ≤ x ∧ x ≤ i * 10736344498176) ∧ Aside0 (chkL ((n : Int) - i) (ls.drop j) = some 0 ∧ addO (some x) (sumC s least p i (ls.drop j)) = sumC s least p 0 ls) ∧ ∃ q, wr = wq.drewN q) (fun _ _ _ v57 _ => m - (intOf v57).toNat)
              case atStart => exact ⟨0, 0, 0, rfl, rfl, rfl, by omega, by omega, by omega, ⟨by simpa using HC.out, by rw [List.drop_zero]; cases sumC s least p 0 ls <;> simp [addO]⟩, 0, rfl⟩
              case round =>
                obtain ⟨j2, i, x, rfl, rfl, rfl, hj2, hi, ⟨hx0, hx1⟩, HX, q2, rfl⟩ := hrel
                by_cases hlt2 : j2 < m
                · have hlti2 : (j2 : Int) < m := by omega
                  obtain ⟨ad, e1, g1⟩ := Kd.at_int HT.out.2 (j2 : Int) (by omega) hlti2
                  subst e1
                  rw [Int.toNat_natCast] at g1
                  have hdr := rd_drop ls (j := j2) (by rw [HML.out]; exact hlt2)
                  obtain ⟨z, hz⟩ : ∃ z, z = rd ls j2 := ⟨_, rfl⟩
                  rw [← hz] at g1 hdr
                  have hch := HX.out.1
                  rw [hdr] at hch
                  unfold chkL at hch
                  have hzz : ¬ (z < 1 ∨ (n : Int) - i < z) := by
                    intro h
                    rw [if_pos h] at hch
                    cases hch
                  rw [if_neg hzz] at hch
                  obtain ⟨k, rfl⟩ : ∃ k : Nat, z = k := ⟨z.toNat, by omega⟩
                  have hk1 : 1 ≤ k := by omega
                  have hkn : i + k ≤ n := by omega
                  have hsm := HX.out.2
                  rw [hdr] at hsm
                  rw [show sumC s least p i ((k : Int) :: List.drop (j2 + 1) ls) = addO (cO s least p i k) (sumC s least p (i + k) (List.drop (j2 + 1) ls)) by rw [sumC, Int.toNat_natCast]] at hsm
                  rw [show (n : Int) - i - k = (n : Int) - (i + k : Nat) by omega] at hch
                  obtain ⟨g, cap, ecv, hcap, g3, g2⟩ := HT.out.1.cost (a := i) (j := i + k) (by rw [H5.out.2.1, HN.out]; omega) (by rw [HN.out]; omega)
                  rw [H5.out.2.1, HN.out] at ecv hcap
                  rw [HN.out] at g2 g3
                  rw [← HSS.out] at g2
                  rw [show (crowF s least p n i).getD (i + k) 0 = pE (cO s least p i k) by
                    unfold crowF
                    rw [crow_get _ _ _ _ _ _ (by omega), if_pos (by omega), show i + k - i = k by omega]] at g2
                  have ct := HT.out.1.tb.t.at_ (i := 2) rfl
                  have bx := fun v (h : cO s least p i k = some v) => cO_bd HSO.out (by omega) (by omega) h
                  have hxl := pE_lt (b := 1374252095766528) (fun v h => ⟨(bx v h).1, by have := (bx v h).2; omega⟩) (by decide)
                  obtain ⟨y, hyy⟩ : ∃ z, z = pE (cO s least p i k) := ⟨_, rfl⟩
                  rw [← hyy] at g2 hxl
                  obtain ⟨ri, hri⟩ : ∃ z, z = r1s.getD i 0 := ⟨_, rfl⟩
                  rw [← hri] at g2 g3
                  clear hri hz hzz hdr
                  subst ecv
                  have q4 : (0 : Int) ≤ (i : Int) + k := by omega
                  have q5 : (i : Int) + k < (n : Int) + 1 := by omega
                  have q7 : i + k < n + 1 := by omega
                  have q8 : ((i : Int) + k).toNat = i + k := by omega
                  have q9 : (i : Int) < n := by omega
                  have q10 : i < n := by omega
                  by_cases hy1 : y < 4611686018427387904
                  · have dy : decide (4611686018427387904 ≤ y) = false := decide_eq_false (by omega)
                    have hce : cO s least p i k = some y := by
                      have h1 := hxl.1 hy1
                      cases e : cO s least p i k with
                      | none => exact absurd e h1
                      | some v => rw [hyy, e]; rfl
                    have hyb := bx y hce
                    obtain ⟨hyb0, hyb1⟩ := hyb
                    have HX2 : Aside0 (chkL ((n : Int) - (i + k : Nat)) (ls.drop (j2 + 1)) = some 0 ∧ addO (some (x + y)) (sumC s least p (i + k) (ls.drop (j2 + 1))) = sumC s least p 0 ls) := ⟨hch, by
                      rw [← hsm, hce]
                      cases sumC s least p (i + k) (ls.drop (j2 + 1)) <;> simp [addO]
                      omega⟩
                    have hyk : (k : Int) * 10736344498176 ≤ 128 * 10736344498176 := by omega
                    have hxk : (i : Int) * 10736344498176 ≤ 128 * 10736344498176 := by omega
                    have q11 : IntKind.i64.wrap (x + y) = x + y := IntWalk.i64_in _ (by omega)
                    have hsum : x + y ≤ ((i + k : Nat) : Int) * 10736344498176 := by omega
                    clear HX hch hsm hxl hyy bx hce
                    go_wp2_with fail
                    go_roundw
                    case rel => exact ⟨j2 + 1, i + k, x + y, by go_num, by go_num, by go_num, by omega, by omega, by omega, HX2, q2, rfl⟩
                    case measure => simp [intOf]; omega
                  · have dy : decide (4611686018427387904 ≤ y) = true := decide_eq_true (by omega)
                    have HNO : Aside0 (sumC s least p 0 ls = none) := ⟨by
                      rw [← hsm]
                      have e : cO s least p i k = none := by
                        cases e : cO s least p i k with
                        | none => rfl
                        | some v => exact absurd (hxl.2 (by rw [e]; simp)) hy1
                      rw [e]
                      cases sumC s least p (i + k) (ls.drop (j2 + 1)) <;> rfl⟩
                    clear HX hch hsm hxl hyy bx
                    go_wp2_with fail
                    refine bodyPost_ret (v := .tuple #[.int .i64 0, .int .i64 13]) (by simp [results, Try.results33, go_sem]) rfl ?_
                    refine ⟨?_, below_step H5.out.2.2.1 (below_step HWQ.out (bdN _ _))⟩
                    rw [HV2.out, HNO.out]
                · have hlti2 : ¬ (j2 : Int) < m := by omega
                  have HY : Aside0 (sumC s least p 0 ls = some x) := ⟨by
                    rw [← HX.out.2, List.drop_of_length_le (by rw [HML.out]; omega)]
                    simp [sumC, addO]⟩
                  clear HX
                  go_wp2_with fail
                  refine bodyPost_ret (v := .tuple #[.int .i64 x, .int .i64 0]) (by simp [results, Try.results33, go_sem]) rfl ?_
                  refine ⟨?_, below_step H5.out.2.2.1 (below_step HWQ.out (bdN _ _))⟩
                  rw [HV2.out, HY.out]
          · have hxb : (x != 0) = true := by simpa using hx
            go_wp2_with fail
            refine bodyPost_ret (v := .tuple #[.int .i64 0, .int .i64 2]) (by simp [results, Try.results33, go_sem]) rfl ?_
            refine ⟨?_, below_step H5.out.2.2.1 (bdN _ _)⟩
            rw [HV.out, if_neg (by rw [HC.out]; simpa using hx)]
  · obtain ⟨e0, he0⟩ : ∃ z, z = errE fs l least p := ⟨_, rfl⟩
    have hz : (e0 != 0) = true := by rw [he0]; simpa using hE
    have hR : costR fs l least p ls = (0, e0) := by unfold costR; rw [if_neg hE, ← he0]
    rw [hR]
    have HE0 := Aside0.mk he0
    have HE := Aside0.mk hE
    have hmx := Kd.C_max hm
    clear h hk b1 q1 hl hE he0 hR hm
    go_enter Try.func33, Try.ntmps33
    go_wp2_with ((with_reducible refine HL.out.mono ?_); rintro e5 w5 hp5; unfold LaidPost at hp5; rw [if_neg HE.out] at hp5; obtain ⟨hb5, rfl⟩ := hp5; have HB5 := Aside0.mk (below_step HB.out.1 hb5); clear hb5; rw [← HE0.out])
    refine bodyPost_ret (v := .tuple #[.int .i64 0, .int .i64 e0]) (by simp [results, Try.results33, go_sem]) rfl ?_
    exact ⟨rfl, HB5.out⟩
end Go.Proofs.Ythkfahkkcjagdaa
namespace Go.Proofs.Ythkfahkkcjagdaa
open Go.RowKit Go.Proofs.YthkfahkkcjagdaaW.PrintWords Go.Proofs.YthkfahkkcjagdaaW.PrintMore Go.Proofs.YthkfahkkcjagdaaW.PrintLast

section
variable (s : Nat → Fl) (least p : Int) (n most : Nat)
def cvPart (k : Nat) : List Int := (List.range most).map fun x => if x < k then negE (restO s least p n (x + 1) 0) else 0
theorem cvPart_length (k : Nat) : (cvPart s least p n most k).length = most := by simp [cvPart]
theorem cvPart_init : List.replicate most 0 = cvPart s least p n most 0 := by
  refine List.ext_getElem? fun j => ?_
  unfold cvPart
  rw [List.getElem?_map, List.getElem?_replicate]
  by_cases hj : j < most
  · rw [List.getElem?_range hj, if_pos hj]; rfl
  · rw [List.getElem?_eq_none (by simp; omega), if_neg hj]; rfl
theorem cvPart_set {k : Nat} (hk : k < most) : (cvPart s least p n most k).set k (negE (restO s least p n (k + 1) 0)) = cvPart s least p n most (k + 1) := by
  unfold cvPart
  refine map_set_range _ _ _ _ _ hk ?_ fun j hj hne => ?_
  · rw [if_pos (by omega)]
  · by_cases h : j < k
    · rw [if_pos h, if_pos (by omega)]
    · rw [if_neg h, if_neg (by omega)]
theorem cvPart_last : cvPart s least p n most most = curveL s least p n most := by
  unfold cvPart curveL
  refine List.map_congr_left fun j hj => ?_
  rw [if_pos (List.mem_range.1 hj)]
end
def CurvePost (w : World) (fs : List Fl) (l least p : Int) (e : Ending) (w' : World) : Prop :=
  Below w.heap.size w w' ∧ if errE fs l least p = 0 then ∃ g : Nat, e = .returned (.tuple #[.slice (some ⟨g, 0, none⟩) l.toNat l.toNat, .int .i64 0]) ∧ Blk w' g (ints (curveL (sF fs (ordF fs)) least p fs.length l.toNat)) 3
  else e = .returned (.tuple #[.slice none 0 0, .int .i64 (errE fs l least p)])
set_option maxHeartbeats 8000000 in
set_option maxRecDepth 100000 in
theorem curve_any (w : World) (A : Option Addr) (n cf : Nat) (fs : List Fl) (hn0 : fs.length = n) (h : kF.C w A n fs) (hk : KOK fs) (l least p : Int) :
    Calls Try.prog 26 #[.slice A n cf, .agg #[.int .i64 l, .int .i64 least, .int .i64 p]] w (CurvePost w fs l least p) := by
  have b1 := below_alloc (Below.refl w.heap.size w) (.cells #[.int .i64 l, .int .i64 least, .int .i64 p] 24)
  have q1 := Blk.new w [.int .i64 l, .int .i64 least, .int .i64 p] 24
  have s0 := q1.at_ (i := 0) rfl
  have s1 := q1.at_ (i := 1) rfl
  have s2 := q1.at_ (i := 2) rfl
  have hl := laid_short _ A n cf fs hn0 (Kd.C_below h b1) hk l least p
  have HB := Aside0.mk (And.intro b1 q1)
  have HL := Aside0.mk hl
  by_cases hE : errE fs l least p = 0
  · have hn := (errE_all hE).1
    have hsp := (errE_spec hE).1
    obtain ⟨most, rfl⟩ : ∃ m : Nat, l = m := ⟨l.toNat, by omega⟩
    have hm1 : 1 ≤ most := by omega
    have hm2 : most ≤ 16 := by omega
    have HSO := Aside0.mk (ordF_SOK (errE_all hE).2)
    have HPOST : Aside0 (∀ e w', Below w.heap.size w w' → (∃ g : Nat, e = .returned (.tuple #[.slice (some ⟨g, 0, none⟩) most most, .int .i64 0]) ∧ Blk w' g (ints (curveL (sF fs (ordF fs)) least p fs.length most)) 3) → CurvePost w fs most least p e w') := ⟨fun e w' h1 h2 => by
      unfold CurvePost
      rw [if_pos hE, Int.toNat_natCast]
      exact ⟨h1, h2⟩⟩
    obtain ⟨s, hs0⟩ : ∃ z, z = sF fs (ordF fs) := ⟨_, rfl⟩
    have HN := Aside0.mk hn0
    have HSS := Aside0.mk hs0
    have HE := Aside0.mk hE
    rw [hn0] at hn
    rw [← hs0, hn0] at HSO HPOST
    have mk1 := print_make (P := Try.prog) 35 3 .i64 8 Try.underlying35 info3 (by decide) most (by omega)
    clear h hk b1 q1 hl hn0 hs0 hE hsp
    go_enter Try.func26, Try.ntmps26
    go_upto_region 4 with ((with_reducible refine HL.out.mono ?_); rintro e5 w5 hp5; unfold LaidPost at hp5; rw [if_pos HE.out] at hp5; obtain ⟨hb5, bt, o, cv, ev, r1s, r2s, rfl, ht5, hr5⟩ := hp5; have H5 := Aside0.mk (And.intro ht5 (And.intro hr5 (And.intro (below_step HB.out.1 hb5) (HB.out.2.below hb5)))); clear hb5 ht5 hr5)
    clear s1 s2 s0
    have s0 := H5.out.2.2.2.at_ (i := 0) rfl
    go_upto_region 5 with fail
    clear mk1 s0
    rw [made_ints]
    have h7 : Blk (w5.alloc (.cells (ints (List.replicate most 0)).toArray 3)) w5.heap.size (ints (cvPart s least p n most 0)) 3 ∧ Below w5.heap.size w5 (w5.alloc (.cells (ints (List.replicate most 0)).toArray 3)) := by
      rw [cvPart_init s least p n most]
      exact ⟨Blk.new w5 _ 3, below_alloc (Below.refl _ _) _⟩
    generalize (w5.alloc (.cells (ints (List.replicate most 0)).toArray 3)) = w7 at h7 ⊢
    obtain ⟨gc, hr⟩ : ∃ z, z = w5.heap.size := ⟨_, rfl⟩
    rw [← hr] at h7 ⊢
    have s0 := (H5.out.2.2.2.below (by rw [hr] at h7; exact h7.2)).at_ (i := 0) rfl
    have HW7 : Aside0 (Below w.heap.size w w7 ∧ Blk w7 gc (ints (cvPart s least p n most 0)) 3 ∧ w.heap.size ≤ gc) := ⟨by rw [hr] at h7; exact below_step H5.out.2.2.1 h7.2, h7.1, by rw [hr]; exact H5.out.2.2.1.size⟩
    have ht7 := H5.out.1.below (by rw [hr] at h7; exact h7.2)
    have hle := least_any w7 _ bt o A cf fs (ordF fs) least p cv ev r1s r2s ht7 H5.out.2.1 (by rw [HN.out]; exact hn) (by rw [← HSS.out, HN.out]; exact HSO.out) most hm2
    have HLE := Aside0.mk hle
    have hltm : ¬ most + 1 = 1 := by omega
    have hm3 : (1 : Int) ≤ (most : Int) + 1 := by omega
    have hm4 : 1 ≤ most + 1 := by omega
    clear hle h7 hr ht7
    go_upto_region 6 with ((with_reducible refine HLE.out.mono ?_); rintro e6 w6 ⟨bo, rs, rfl, hls6, hrl6⟩; have H6 := Aside0.mk (And.intro hls6 hrl6); clear hls6 hrl6)
    clear s0
    have hgc : gc < w7.heap.size := HW7.out.2.1.lt
    have HGC := Aside0.mk hgc; clear hgc
    go_loopw [9, 10, 29] (fun _ _ v29 wr => ∃ k : Nat, v29 = .int .i64 k ∧ k ≤ most ∧ Aside0 (Blk wr gc (ints (cvPart s least p n most k)) 3 ∧ Kp (fun x => x = gc) w6 wr)) (fun _ _ v29 _ => most - (intOf v29).toNat)
    case atStart => exact ⟨0, rfl, by omega, ⟨HW7.out.2.1.below H6.out.1.b, Kp.refl _ _⟩⟩
    case round =>
      obtain ⟨k, rfl, hk, HK⟩ := hrel
      by_cases hlt : k < most
      · have hlti : (k : Int) < most := by omega
        have hrl := H6.out.2
        have nbo : ¬ bo = gc := fun e => by have := H6.out.1.ob; have := HGC.out; omega
        have nrr : ¬ rs.getD (k + 1) 0 = gc := fun e => by have := H6.out.1.rb (k + 1) (by omega); have := HGC.out; omega
        have cr := HK.out.2.cell (H6.out.1.row_at (a := k + 1) (by omega)) nbo
        have cz := HK.out.2.cell ((H6.out.1.rr (k + 1) (by omega)).at_ (ints_get _ (i := 0) (by rw [lrow_length]; omega))) nrr
        rw [lrow_get _ _ _ _ _ (Nat.zero_le _), ← HSS.out, HN.out] at cz
        rw [HN.out] at cr
        obtain ⟨ri, hri⟩ : ∃ z, z = rs.getD (k + 1) 0 := ⟨_, rfl⟩
        rw [← hri] at cr cz
        have bx := fun v (h : restO s least p n (k + 1) 0 = some v) => restO_bd HSO.out (k + 1) 0 v (Nat.zero_le _) h
        have hxl := pE_lt (b := 1374252095766528) (fun v h => ⟨(bx v h).1, by have := (bx v h).2; omega⟩) (by decide)
        obtain ⟨x, hx⟩ : ∃ z, z = pE (restO s least p n (k + 1) 0) := ⟨_, rfl⟩
        rw [← hx] at cz hxl
        have crb := cr
        rw [show k + 1 = 1 + k by omega] at crb
        have cra : wr.cell? ((⟨bo, 1, none⟩ : Addr).add k) = some (.slice (some ⟨ri, 0, none⟩) (n + 1) (n + 1)) := by rw [add_at]; exact crb
        have cc := HK.out.1.at_ (ints_get _ (show k < (cvPart s least p n most k).length by rw [cvPart_length]; omega))
        obtain ⟨y0, hy0⟩ : ∃ z, z = (cvPart s least p n most k).getD k 0 := ⟨_, rfl⟩
        rw [← hy0] at cc
        have cf := HK.out.1.free k
        have HX := Aside0.mk hx
        rw [← hri] at nrr
        have HNR := Aside0.mk nrr
        clear hri hrl nbo nrr bx hx hy0
        go_upto_region 9 with fail
        have h9 : (wr.setCell ⟨gc, k, none⟩ (.int .i64 x)).cell? ⟨ri, 0, none⟩ = some (.int .i64 x) := ((Kp.refl (fun x => x = gc) wr).setCell (p := ⟨gc, k, none⟩) (fun _ => rfl) _).cell cz HNR.out
        have H9 : Aside0 (Blk (wr.setCell ⟨gc, k, none⟩ (.int .i64 x)) gc (ints ((cvPart s least p n most k).set k x)) 3 ∧ Kp (fun x => x = gc) w6 (wr.setCell ⟨gc, k, none⟩ (.int .i64 x))) := ⟨by
          have := HK.out.1.set k (.int .i64 x)
          rwa [ints_set] at this, HK.out.2.setCell (p := ⟨gc, k, none⟩) (fun _ => rfl) _⟩
        generalize (wr.setCell ⟨gc, k, none⟩ (.int .i64 x)) = w9 at h9 H9 ⊢
        clear cc cf cz cr crb cra HK
        have cc := H9.out.1.at_ (ints_get _ (show k < ((cvPart s least p n most k).set k x).length by rw [List.length_set, cvPart_length]; omega))
        have cf := H9.out.1.free k
        obtain ⟨y1, hy1⟩ : ∃ z, z = ((cvPart s least p n most k).set k x).getD k 0 := ⟨_, rfl⟩
        rw [← hy1] at cc
        clear hy1
        by_cases hxx : x < 4611686018427387904
        · have dx : decide (4611686018427387904 ≤ x) = false := decide_eq_false (by omega)
          have hn1 := hxl.1 hxx
          have HY : Aside0 (negE (restO s least p n (k + 1) 0) = x) := ⟨by
            cases e : restO s least p n (k + 1) 0 with
            | none => exact absurd e hn1
            | some v => rw [HX.out, e]; rfl⟩
          clear hxl hn1
          go_wp2_with fail
          go_roundw
          case rel =>
            refine ⟨k + 1, by go_num, by omega, ⟨?_, H9.out.2⟩⟩
            have h1 := H9.out.1
            rwa [← HY.out, cvPart_set _ _ _ _ _ hlt] at h1
          case measure => simp [intOf]; omega
        · have dx : decide (4611686018427387904 ≤ x) = true := decide_eq_true (by omega)
          have HY : Aside0 (negE (restO s least p n (k + 1) 0) = -1) := ⟨by
            cases e : restO s least p n (k + 1) 0 with
            | none => rfl
            | some v => exact absurd (hxl.2 (by rw [e]; simp)) hxx⟩
          clear hxl
          go_wp2_with fail
          go_roundw
          case rel =>
            refine ⟨k + 1, by go_num, by omega, ⟨?_, H9.out.2.setCell (p := ⟨gc, k, none⟩) (fun _ => rfl) _⟩⟩
            have h1 := H9.out.1.set k (.int .i64 (-1))
            rw [ints_set, List.set_set, ← HY.out, cvPart_set _ _ _ _ _ hlt, HY.out] at h1
            exact h1
          case measure => simp [intOf]; omega
      · have hlti : ¬ (k : Int) < most := by omega
        have hkm : k = most := by omega
        subst hkm
        go_wp2_with fail
        refine bodyPost_ret (v := .tuple #[.slice (some ⟨gc, 0, none⟩) k k, .int .i64 0]) (by simp [results, Try.results26, go_sem]) rfl ?_
        exact HPOST.out _ _ (((Kp.of_below (S := fun x => x = gc) (below_step HW7.out.1 H6.out.1.b)).step HK.out.2).below_of (fun i e => by rw [e]; exact HW7.out.2.2)) ⟨gc, rfl, by have := HK.out.1; rwa [cvPart_last] at this⟩
  · obtain ⟨e0, he0⟩ : ∃ z, z = errE fs l least p := ⟨_, rfl⟩
    have hz : (e0 != 0) = true := by rw [he0]; simpa using hE
    have HE0 := Aside0.mk he0
    have HE := Aside0.mk hE
    have HPOST : Aside0 (∀ e w', Below w.heap.size w w' → e = .returned (.tuple #[.slice none 0 0, .int .i64 e0]) → CurvePost w fs l least p e w') := ⟨fun e w' h1 h2 => by
      unfold CurvePost
      rw [if_neg hE]
      exact ⟨h1, by rw [h2, he0]⟩⟩
    clear h hk b1 q1 hl hE he0
    go_enter Try.func26, Try.ntmps26
    go_wp2_with ((with_reducible refine HL.out.mono ?_); rintro e5 w5 hp5; unfold LaidPost at hp5; rw [if_neg HE.out] at hp5; obtain ⟨hb5, rfl⟩ := hp5; have HB5 := Aside0.mk (below_step HB.out.1 hb5); clear hb5; rw [← HE0.out])
    refine bodyPost_ret (v := .tuple #[.slice none 0 0, .int .i64 e0]) (by simp [results, Try.results26, go_sem]) rfl ?_
    exact HPOST.out _ _ HB5.out rfl
end Go.Proofs.Ythkfahkkcjagdaa

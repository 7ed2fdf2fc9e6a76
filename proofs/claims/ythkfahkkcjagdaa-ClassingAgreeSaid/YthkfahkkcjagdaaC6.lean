/- The rows of the table: what they hold while a run grows, and their memory. -/
import Derived.Test.YthkfahkkcjagdaaC5
namespace Go.Proofs.Ythkfahkkcjagdaa
open Go.RowKit Go.Proofs.YthkfahkkcjagdaaW.PrintWords Go.Proofs.YthkfahkkcjagdaaW.PrintMore Go.Proofs.YthkfahkkcjagdaaW.PrintLast

/-- A cost, or never. -/
def pE : Option Int → Int
  | none => 4611686018427387904
  | some x => x
/-- The row of costs of the runs from i on when d fleeces were looked at; and that of centres. -/
def crow (s : Nat → Fl) (least p : Int) (n i d : Nat) : List Int := (List.range (n + 1)).map fun j => if i < j ∧ j ≤ i + d then pE (cO s least p i (j - i)) else 4611686018427387904
def erow (s : Nat → Fl) (n i d : Nat) : List Int := (List.range (n + 1)).map fun j => if i < j ∧ j ≤ i + d then cen s i (j - i) else 0
/-- How many fleeces from i on may be one run. -/
def runL (s : Nat → Fl) (p : Int) (i : Nat) : Nat → Nat
  | 0 => 0
  | k + 1 => if okR s p i (k + 1) = true then k + 1 else runL s p i k
def crowF (s : Nat → Fl) (least p : Int) (n i : Nat) : List Int := crow s least p n i (n - i)
def erowF (s : Nat → Fl) (p : Int) (n i : Nat) : List Int := erow s n i (runL s p i (n - i))
section
variable (s : Nat → Fl) (least p : Int) (n i d : Nat)
theorem crow_length : (crow s least p n i d).length = n + 1 := by simp [crow]
theorem erow_length : (erow s n i d).length = n + 1 := by simp [erow]
theorem range_map_get (f : Nat → Int) {m j : Nat} (h : j < m) : ((List.range m).map f).getD j 0 = f j := by
  rw [List.getD_eq_getElem?_getD, List.getElem?_map, List.getElem?_range h]; rfl
theorem crow_get {j : Nat} (h : j ≤ n) : (crow s least p n i d).getD j 0 = if i < j ∧ j ≤ i + d then pE (cO s least p i (j - i)) else 4611686018427387904 := range_map_get _ (by omega)
theorem erow_get {j : Nat} (h : j ≤ n) : (erow s n i d).getD j 0 = if i < j ∧ j ≤ i + d then cen s i (j - i) else 0 := range_map_get _ (by omega)
theorem map_set_range (f g : Nat → Int) (m k : Nat) (v : Int) (hk : k < m) (hg : g k = v) (h : ∀ j, j < m → j ≠ k → g j = f j) : ((List.range m).map f).set k v = (List.range m).map g := by
  refine List.ext_getElem? fun j => ?_
  rw [List.getElem?_set, List.getElem?_map, List.getElem?_map]
  by_cases hj : j < m
  · rw [List.getElem?_range hj]
    by_cases e : k = j
    · subst e
      rw [if_pos rfl, if_pos (by simpa using hj)]
      simp [hg]
    · rw [if_neg e]
      simp [h j hj (Ne.symm e)]
  · rw [List.getElem?_eq_none (by simp; omega)]
    split
    · rename_i e
      subst e
      rw [if_neg (by simp; omega)]
      rfl
    · rfl
theorem crow_set (hd : i + d < n) : (crow s least p n i d).set (i + d + 1) (pE (cO s least p i (d + 1))) = crow s least p n i (d + 1) := by
  unfold crow
  refine map_set_range _ _ _ _ _ (by omega) ?_ fun j hj hne => ?_
  · rw [if_pos (by omega), show i + d + 1 - i = d + 1 by omega]
  · by_cases h : i < j ∧ j ≤ i + d
    · rw [if_pos (by omega), if_pos h]
    · rw [if_neg (by omega), if_neg h]
theorem crow_none (h : cO s least p i (d + 1) = none) : crow s least p n i d = crow s least p n i (d + 1) := by
  unfold crow
  refine List.map_congr_left fun j _ => ?_
  by_cases h1 : i < j ∧ j ≤ i + d
  · rw [if_pos h1, if_pos (by omega)]
  · rw [if_neg h1]
    by_cases h2 : i < j ∧ j ≤ i + (d + 1)
    · rw [if_pos h2, show j - i = d + 1 by omega, h]; rfl
    · rw [if_neg h2]
theorem erow_set (hd : i + d < n) : (erow s n i d).set (i + d + 1) (cen s i (d + 1)) = erow s n i (d + 1) := by
  unfold erow
  refine map_set_range _ _ _ _ _ (by omega) ?_ fun j hj hne => ?_
  · rw [if_pos (by omega), show i + d + 1 - i = d + 1 by omega]
  · by_cases h : i < j ∧ j ≤ i + d
    · rw [if_pos (by omega), if_pos h]
    · rw [if_neg (by omega), if_neg h]
theorem crow_zero : crow s least p n i 0 = List.replicate (n + 1) 4611686018427387904 := by
  refine List.ext_getElem? fun j => ?_
  unfold crow
  rw [List.getElem?_map, List.getElem?_replicate]
  by_cases hj : j < n + 1
  · rw [List.getElem?_range hj, if_pos hj]
    simp
    omega
  · rw [if_neg hj, List.getElem?_eq_none (by simp; omega)]; rfl
theorem erow_zero : erow s n i 0 = List.replicate (n + 1) 0 := by
  refine List.ext_getElem? fun j => ?_
  unfold erow
  rw [List.getElem?_map, List.getElem?_replicate]
  by_cases hj : j < n + 1
  · rw [List.getElem?_range hj, if_pos hj]
    simp
    intro h1 h2; omega
  · rw [if_neg hj, List.getElem?_eq_none (by simp; omega)]; rfl
end
section
variable {s : Nat → Fl} {least p : Int} {n i d : Nat}
theorem runL_of (hd : d ≤ n) (h1 : okR s p i d = true) (h2 : d < n → okR s p i (d + 1) = false) : runL s p i n = d := by
  induction n with
  | zero => rw [show d = 0 by omega]; rfl
  | succ n ih =>
    unfold runL
    rcases Nat.lt_or_ge d (n + 1) with h | h
    · have h3 : ¬ okR s p i (n + 1) = true := fun k => by
        have := okR_pre (show d + 1 ≤ n + 1 by omega) k
        rw [h2 h] at this; exact absurd this (by decide)
      rw [if_neg h3]
      exact ih (by omega) (fun _ => h2 h)
    · rw [show n + 1 = d by omega, if_pos h1]
theorem crowF_of (hd : i + d ≤ n) (h2 : i + d < n → okR s p i (d + 1) = false) : crow s least p n i d = crowF s least p n i := by
  unfold crowF crow
  refine List.map_congr_left fun j hj => ?_
  have hj : j < n + 1 := List.mem_range.1 hj
  by_cases h1 : i < j ∧ j ≤ i + d
  · rw [if_pos h1, if_pos (by omega)]
  · rw [if_neg h1]
    by_cases h3 : i < j ∧ j ≤ i + (n - i)
    · rw [if_pos h3]
      have : cO s least p i (j - i) = none := by
        unfold cO
        rw [if_neg]
        rintro ⟨h4, _⟩
        have := okR_pre (show d + 1 ≤ j - i by omega) h4
        rw [h2 (by omega)] at this; exact absurd this (by decide)
      rw [this]; rfl
    · rw [if_neg h3]
theorem erowF_of (hd : i + d ≤ n) (h1 : okR s p i d = true) (h2 : i + d < n → okR s p i (d + 1) = false) : erow s n i d = erowF s p n i := by
  unfold erowF
  rw [runL_of (d := d) (by omega) h1 (fun h => h2 (by omega))]
end

/-- The memory that a row works on. -/
structure RM (w : World) (w0 : World) (bt o : Nat) (A : Option Addr) (cf : Nat) (fs : List Fl) (ord : List Int) (cv ev : Value) (bs b1 r1 r2 : Nat) (sp : List Value) (f1 : Fl) (c e : List Int) : Prop where
  tb : TB w bt o A cf fs ord cv ev
  s : Blk w bs sp 24
  f : Blk w b1 (fcs f1) 44
  c : Blk w r1 (ints c) 3
  e : Blk w r2 (ints e) 3
  b : Below w0.heap.size w0 w
  n : r1 ≠ r2
  l1 : w0.heap.size ≤ r1
  l2 : w0.heap.size ≤ r2
  l3 : w0.heap.size ≤ bs
  l4 : w0.heap.size ≤ b1
  z : bt < w0.heap.size
  zo : o < w0.heap.size
  za : 0 < fs.length → ∀ ad, A = some ad → ad.block < w0.heap.size
section
variable {w w1 w0 : World} {bt o : Nat} {A : Option Addr} {cf : Nat} {fs : List Fl} {ord : List Int} {cv ev : Value} {bs b1 r1 r2 : Nat} {sp : List Value} {f1 : Fl} {c e : List Int}
theorem RM.below (h : RM w w0 bt o A cf fs ord cv ev bs b1 r1 r2 sp f1 c e) (k : Below w.heap.size w w1) : RM w1 w0 bt o A cf fs ord cv ev bs b1 r1 r2 sp f1 c e :=
  { h with tb := h.tb.below k, s := h.s.below k, f := h.f.below k, c := h.c.below k, e := h.e.below k, b := below_step h.b k }
theorem RM.setC (h : RM w w0 bt o A cf fs ord cv ev bs b1 r1 r2 sp f1 c e) (j : Nat) (v : Int) : RM (w.setCell ⟨r1, j, none⟩ (.int .i64 v)) w0 bt o A cf fs ord cv ev bs b1 r1 r2 sp f1 (c.set j v) e := by
  have k : Kp (fun k => k = r1) w (w.setCell ⟨r1, j, none⟩ (.int .i64 v)) := (Kp.refl (fun k => k = r1) w).setCell (p := ⟨r1, j, none⟩) (fun _ => rfl) _
  have n1 : ∀ x cs t, Blk w x cs t → t ≠ 3 → x ≠ r1 := fun x cs t hx ht => hx.ne_of_type h.c ht
  refine { h with tb := h.tb.kp k (n1 _ _ _ h.tb.t (by decide)) ?_ ?_, s := h.s.kp k (n1 _ _ _ h.s (by decide)), f := h.f.kp k (n1 _ _ _ h.f (by decide)), c := ?_, e := h.e.kp k (Ne.symm h.n), b := h.b.setCell h.l1 _ }
  · intro he; have := h.zo; have := h.l1; omega
  · intro hp ad ea he; have := h.za hp ad ea; have := h.l1; omega
  · have := h.c.set j (.int .i64 v)
    rwa [ints_set] at this
theorem RM.setE (h : RM w w0 bt o A cf fs ord cv ev bs b1 r1 r2 sp f1 c e) (j : Nat) (v : Int) : RM (w.setCell ⟨r2, j, none⟩ (.int .i64 v)) w0 bt o A cf fs ord cv ev bs b1 r1 r2 sp f1 c (e.set j v) := by
  have k : Kp (fun k => k = r2) w (w.setCell ⟨r2, j, none⟩ (.int .i64 v)) := (Kp.refl (fun k => k = r2) w).setCell (p := ⟨r2, j, none⟩) (fun _ => rfl) _
  have n1 : ∀ x cs t, Blk w x cs t → t ≠ 3 → x ≠ r2 := fun x cs t hx ht => hx.ne_of_type h.e ht
  refine { h with tb := h.tb.kp k (n1 _ _ _ h.tb.t (by decide)) ?_ ?_, s := h.s.kp k (n1 _ _ _ h.s (by decide)), f := h.f.kp k (n1 _ _ _ h.f (by decide)), e := ?_, c := h.c.kp k h.n, b := h.b.setCell h.l2 _ }
  · intro he; have := h.zo; have := h.l2; omega
  · intro hp ad ea he; have := h.za hp ad ea; have := h.l2; omega
  · have := h.e.set j (.int .i64 v)
    rwa [ints_set] at this
end
end Go.Proofs.Ythkfahkkcjagdaa

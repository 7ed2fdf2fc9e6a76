/- The plain law of the makespan: it is the greatest of the sums along the positions; no order has a smaller one than Johnson's; the mirrored order has the same. -/
import Derived.Test.YtnoocdobldchoaaB2
namespace Go.Proofs.Ytnoocdobldchoaa
open Go.RowKit Go.Proofs.YtnoocdobldchoaaW.PrintWords Go.Proofs.YtnoocdobldchoaaW.PrintMore Go.Proofs.YtnoocdobldchoaaW.PrintLast

def sumP (l : List (Int × Int)) : Int := (l.map (·.1)).sum
def sumS (l : List (Int × Int)) : Int := (l.map (·.2)).sum
def spanL (l : List (Int × Int)) (s : Int × Int) : Int := (l.foldl (fun s d => (s.1 + d.1, max s.2 (s.1 + d.1) + d.2)) s).2
theorem sumP_cons (d : Int × Int) (l : List (Int × Int)) : sumP (d :: l) = d.1 + sumP l := by unfold sumP; rw [List.map_cons, List.sum_cons]
theorem sumS_cons (d : Int × Int) (l : List (Int × Int)) : sumS (d :: l) = d.2 + sumS l := by unfold sumS; rw [List.map_cons, List.sum_cons]
theorem sumP_append (l m : List (Int × Int)) : sumP (l ++ m) = sumP l + sumP m := by unfold sumP; rw [List.map_append, List.sum_append]
theorem sumS_append (l m : List (Int × Int)) : sumS (l ++ m) = sumS l + sumS m := by unfold sumS; rw [List.map_append, List.sum_append]
theorem spanL_cons (d : Int × Int) (l : List (Int × Int)) (s : Int × Int) : spanL (d :: l) s = spanL l (s.1 + d.1, max s.2 (s.1 + d.1) + d.2) := rfl
theorem spanF_L (ds : List (Int × Int)) (order : List Int) : spanF ds order = spanL (order.map (rdP ds)) (0, 0) := by
  unfold spanF spanL
  rw [List.foldl_map]
  rfl
theorem spanL_ge0 : ∀ (l : List (Int × Int)) (s : Int × Int), s.2 + sumS l ≤ spanL l s := by
  intro l
  induction l with
  | nil => intro s; simp [spanL, sumS]
  | cons d l ih =>
    intro s
    have := ih (s.1 + d.1, max s.2 (s.1 + d.1) + d.2)
    rw [spanL_cons, sumS_cons]
    dsimp only at this
    omega
theorem spanL_ge : ∀ (A : List (Int × Int)) (x : Int × Int) (B : List (Int × Int)) (s : Int × Int), s.1 + sumP A + x.1 + x.2 + sumS B ≤ spanL (A ++ x :: B) s := by
  intro A
  induction A with
  | nil =>
    intro x B s
    have := spanL_ge0 B (s.1 + x.1, max s.2 (s.1 + x.1) + x.2)
    rw [List.nil_append, spanL_cons]
    dsimp only at this
    simp only [sumP, List.map_nil, List.sum_nil]
    omega
  | cons d A ih =>
    intro x B s
    have := ih x B (s.1 + d.1, max s.2 (s.1 + d.1) + d.2)
    rw [List.cons_append, spanL_cons, sumP_cons]
    dsimp only at this
    omega
theorem spanL_at : ∀ (l : List (Int × Int)) (s : Int × Int), spanL l s = s.2 + sumS l ∨ ∃ A x B, l = A ++ x :: B ∧ spanL l s = s.1 + sumP A + x.1 + x.2 + sumS B := by
  intro l
  induction l with
  | nil => intro s; left; simp [spanL, sumS]
  | cons d l ih =>
    intro s
    rw [spanL_cons]
    rcases ih (s.1 + d.1, max s.2 (s.1 + d.1) + d.2) with h | ⟨A, x, B, rfl, h⟩
    · rw [h, sumS_cons]
      dsimp only
      rcases Int.le_total s.2 (s.1 + d.1) with hm | hm
      · right
        refine ⟨[], d, l, rfl, ?_⟩
        simp only [sumP, List.map_nil, List.sum_nil]
        omega
      · left; omega
    · right
      refine ⟨d :: A, x, B, rfl, ?_⟩
      rw [h, sumP_cons]
      dsimp only
      omega
/-- Of an order that is not empty, the makespan is one of the sums. -/
theorem spanL_split {l : List (Int × Int)} (hl : l ≠ []) (h0 : ∀ d ∈ l, 0 ≤ d.1) : ∃ A x B, l = A ++ x :: B ∧ spanL l (0, 0) = sumP A + x.1 + x.2 + sumS B := by
  rcases spanL_at l (0, 0) with h | ⟨A, x, B, e, h⟩
  · cases l with
    | nil => exact absurd rfl hl
    | cons d l =>
      refine ⟨[], d, l, rfl, ?_⟩
      have a := spanL_ge [] d l (0, 0)
      have b := h0 d List.mem_cons_self
      rw [List.nil_append] at a
      rw [sumS_cons] at h
      simp only [sumP, List.map_nil, List.sum_nil] at a ⊢
      dsimp only at h
      omega
  · exact ⟨A, x, B, e, by dsimp only at h; omega⟩
/-- The first of a list with a property, and the last. -/
theorem first_split {α : Type} (T : α → Bool) : ∀ l : List α, (∃ x ∈ l, T x = true) → ∃ X x Y, l = X ++ x :: Y ∧ T x = true ∧ ∀ y ∈ X, T y = false := by
  intro l
  induction l with
  | nil => rintro ⟨x, hx, _⟩; simp at hx
  | cons a l ih =>
    rintro ⟨x, hx, ht⟩
    cases ha : T a with
    | true => exact ⟨[], a, l, rfl, ha, fun y hy => by simp at hy⟩
    | false =>
      have hxl : x ∈ l := by
        rcases List.mem_cons.1 hx with rfl | h
        · rw [ha] at ht; cases ht
        · exact h
      obtain ⟨X, z, Y, rfl, hz, hX⟩ := ih ⟨x, hxl, ht⟩
      refine ⟨a :: X, z, Y, rfl, hz, fun y hy => ?_⟩
      rcases List.mem_cons.1 hy with rfl | h
      · exact ha
      · exact hX y h
theorem last_split {α : Type} (T : α → Bool) (l : List α) (h : ∃ x ∈ l, T x = true) : ∃ X x Y, l = X ++ x :: Y ∧ T x = true ∧ ∀ y ∈ Y, T y = false := by
  obtain ⟨X, x, Y, e, hx, hX⟩ := first_split T l.reverse (by obtain ⟨x, hx, ht⟩ := h; exact ⟨x, List.mem_reverse.2 hx, ht⟩)
  refine ⟨Y.reverse, x, X.reverse, ?_, hx, fun y hy => hX y (List.mem_reverse.1 hy)⟩
  have := congrArg List.reverse e
  rw [List.reverse_reverse, List.reverse_append, List.reverse_cons, List.append_assoc] at this
  simpa using this
theorem sum_le_map {f g : Int × Int → Int} : ∀ l : List (Int × Int), (∀ x ∈ l, f x ≤ g x) → (l.map f).sum ≤ (l.map g).sum := by
  intro l
  induction l with
  | nil => intro _; simp
  | cons a l ih =>
    intro h
    rw [List.map_cons, List.map_cons, List.sum_cons, List.sum_cons]
    have := h a List.mem_cons_self
    have := ih (fun x hx => h x (List.mem_cons_of_mem _ hx))
    omega
theorem perm_sum' {l l' : List Int} (h : l.Perm l') : l.sum = l'.sum := by
  induction h with
  | nil => rfl
  | cons x _ ih => rw [List.sum_cons, List.sum_cons, ih]
  | swap x y l => rw [List.sum_cons, List.sum_cons, List.sum_cons, List.sum_cons]; omega
  | trans _ _ ih1 ih2 => exact ih1.trans ih2
/-- Johnson's order. -/
def jle (a b : Int × Int) : Prop := ¬ jcmp b a < 0
theorem jle_low {a c : Int × Int} (h : jle a c) (hc : c.1 ≤ c.2) : a.1 ≤ a.2 ∧ a.1 ≤ c.1 := by
  unfold jle jcmp cmpI at h
  rw [if_pos hc] at h
  by_cases ha : a.1 ≤ a.2
  · rw [if_pos ha] at h
    refine ⟨ha, ?_⟩
    by_cases hl : c.1 < a.1
    · rw [if_pos hl] at h; omega
    · omega
  · rw [if_neg ha] at h; omega
theorem jle_high {c b : Int × Int} (h : jle c b) (hc : ¬ c.1 ≤ c.2) : ¬ b.1 ≤ b.2 ∧ b.2 ≤ c.2 := by
  unfold jle jcmp cmpI at h
  by_cases hb : b.1 ≤ b.2
  · rw [if_pos hb, if_neg hc] at h; omega
  · rw [if_neg hb, if_neg hc] at h
    refine ⟨hb, ?_⟩
    by_cases hl : c.2 < b.2
    · rw [if_pos hl] at h; omega
    · omega
theorem jle_first {c b : Int × Int} (h : jle c b) (_ : c.1 ≤ c.2) (hb : b.1 ≤ b.2) : c.1 ≤ b.1 := by
  have := jle_low h hb
  omega
theorem jle_second {a c : Int × Int} (h : jle a c) (ha : ¬ a.1 ≤ a.2) : c.2 ≤ a.2 := (jle_high h ha).2
/-- No order has a smaller makespan than Johnson's. -/
theorem johnson {J L : List (Int × Int)} (hJ : J.Pairwise jle) (hp : L.Perm J) (h0 : ∀ d ∈ J, 0 ≤ d.1 ∧ 0 ≤ d.2) : spanL J (0, 0) ≤ spanL L (0, 0) := by
  by_cases hne : J = []
  · subst hne
    rw [List.Perm.eq_nil hp]
    exact Int.le_refl _
  obtain ⟨A, c, B, rfl, hsp⟩ := spanL_split hne (fun d hd => (h0 d hd).1)
  rw [hsp]
  obtain ⟨_, hpw, hcr⟩ := List.pairwise_append.1 hJ
  have hA : ∀ a ∈ A, jle a c := fun a ha => hcr a ha c List.mem_cons_self
  have hB : ∀ b ∈ B, jle c b := (List.pairwise_cons.1 hpw).1
  have hcL : c ∈ L := hp.mem_iff.2 (by simp)
  by_cases hc : c.1 ≤ c.2
  · obtain ⟨X, x, Y, rfl, hx, hX⟩ := first_split (fun y : Int × Int => decide (y.1 ≤ y.2 ∧ c.1 ≤ y.1)) L ⟨c, hcL, by simpa using hc⟩
    have hv := spanL_ge X x Y (0, 0)
    have hx' : x.1 ≤ x.2 ∧ c.1 ≤ x.1 := by simpa using hx
    let φ : Int × Int → Int := fun y => if y.1 ≤ y.2 ∧ y.1 < c.1 then y.1 else y.2
    have e := perm_sum' (hp.map φ)
    rw [List.map_append, List.map_cons, List.sum_append, List.sum_cons, List.map_append, List.map_cons, List.sum_append, List.sum_cons] at e
    have a1 : (X.map φ).sum ≤ sumP X := by
      refine sum_le_map X (fun y hy => ?_)
      have h1 := hX y hy
      simp only [decide_eq_false_iff_not] at h1
      show (if y.1 ≤ y.2 ∧ y.1 < c.1 then y.1 else y.2) ≤ y.1
      split <;> omega
    have a2 : (Y.map φ).sum ≤ sumS Y := by
      refine sum_le_map Y (fun y _ => ?_)
      show (if y.1 ≤ y.2 ∧ y.1 < c.1 then y.1 else y.2) ≤ y.2
      split <;> omega
    have a3 : sumP A ≤ (A.map φ).sum := by
      refine sum_le_map A (fun y hy => ?_)
      have h1 := jle_low (hA y hy) hc
      show y.1 ≤ (if y.1 ≤ y.2 ∧ y.1 < c.1 then y.1 else y.2)
      split <;> omega
    have a4 : sumS B ≤ (B.map φ).sum := by
      refine sum_le_map B (fun y hy => ?_)
      show y.2 ≤ (if y.1 ≤ y.2 ∧ y.1 < c.1 then y.1 else y.2)
      by_cases hy1 : y.1 ≤ y.2
      · have := jle_first (hB y hy) hc hy1
        rw [if_neg (by omega)]; exact Int.le_refl _
      · rw [if_neg (by omega)]; exact Int.le_refl _
    have b1 : φ x = x.2 := by
      show (if x.1 ≤ x.2 ∧ x.1 < c.1 then x.1 else x.2) = x.2
      rw [if_neg (by omega)]
    have b2 : φ c = c.2 := by
      show (if c.1 ≤ c.2 ∧ c.1 < c.1 then c.1 else c.2) = c.2
      rw [if_neg (by omega)]
    dsimp only at hv
    omega
  · obtain ⟨X, x, Y, rfl, hx, hY⟩ := last_split (fun y : Int × Int => decide (y.2 < y.1 ∧ c.2 ≤ y.2)) L ⟨c, hcL, by simp; omega⟩
    have hv := spanL_ge X x Y (0, 0)
    have hx' : x.2 < x.1 ∧ c.2 ≤ x.2 := by simpa using hx
    let φ : Int × Int → Int := fun y => if y.2 < y.1 ∧ y.2 < c.2 then y.2 else y.1
    have e := perm_sum' (hp.map φ)
    rw [List.map_append, List.map_cons, List.sum_append, List.sum_cons, List.map_append, List.map_cons, List.sum_append, List.sum_cons] at e
    have a1 : (X.map φ).sum ≤ sumP X := by
      refine sum_le_map X (fun y _ => ?_)
      show (if y.2 < y.1 ∧ y.2 < c.2 then y.2 else y.1) ≤ y.1
      split <;> omega
    have a2 : (Y.map φ).sum ≤ sumS Y := by
      refine sum_le_map Y (fun y hy => ?_)
      have h1 := hY y hy
      simp only [decide_eq_false_iff_not] at h1
      show (if y.2 < y.1 ∧ y.2 < c.2 then y.2 else y.1) ≤ y.2
      split <;> omega
    have a3 : sumP A ≤ (A.map φ).sum := by
      refine sum_le_map A (fun y hy => ?_)
      show y.1 ≤ (if y.2 < y.1 ∧ y.2 < c.2 then y.2 else y.1)
      by_cases hy1 : y.1 ≤ y.2
      · rw [if_neg (by omega)]; exact Int.le_refl _
      · have := jle_second (hA y hy) hy1
        rw [if_neg (by omega)]; exact Int.le_refl _
    have a4 : sumS B ≤ (B.map φ).sum := by
      refine sum_le_map B (fun y hy => ?_)
      have h1 := jle_high (hB y hy) hc
      show y.2 ≤ (if y.2 < y.1 ∧ y.2 < c.2 then y.2 else y.1)
      split <;> omega
    have b1 : φ x = x.1 := by
      show (if x.2 < x.1 ∧ x.2 < c.2 then x.2 else x.1) = x.1
      rw [if_neg (by omega)]
    have b2 : φ c = c.1 := by
      show (if c.2 < c.1 ∧ c.2 < c.2 then c.2 else c.1) = c.1
      rw [if_neg (by omega)]
    dsimp only at hv
    omega
/-- Both times swapped, and the order reversed. -/
def mirr (l : List (Int × Int)) : List (Int × Int) := (l.map fun d => (d.2, d.1)).reverse
theorem mirr_mirr (l : List (Int × Int)) : mirr (mirr l) = l := by
  unfold mirr
  rw [List.map_reverse, List.reverse_reverse, List.map_map]
  exact (List.map_congr_left (g := id) (fun x _ => rfl)).trans (List.map_id l)
theorem sumS_mirr (l : List (Int × Int)) : sumS (mirr l) = sumP l := by
  unfold sumS sumP mirr
  rw [List.map_reverse, List.map_map]
  exact perm_sum' (List.reverse_perm _)
theorem sumP_mirr (l : List (Int × Int)) : sumP (mirr l) = sumS l := by
  unfold sumS sumP mirr
  rw [List.map_reverse, List.map_map]
  exact perm_sum' (List.reverse_perm _)
theorem mirr_split (A B : List (Int × Int)) (x : Int × Int) : mirr (A ++ x :: B) = mirr B ++ (x.2, x.1) :: mirr A := by
  unfold mirr
  simp
theorem span_mirr_le {l : List (Int × Int)} (h0 : ∀ d ∈ l, 0 ≤ d.1 ∧ 0 ≤ d.2) : spanL l (0, 0) ≤ spanL (mirr l) (0, 0) := by
  by_cases hne : l = []
  · subst hne; exact Int.le_refl _
  obtain ⟨A, x, B, rfl, h⟩ := spanL_split hne (fun d hd => (h0 d hd).1)
  rw [h, mirr_split]
  have := spanL_ge (mirr B) (x.2, x.1) (mirr A) (0, 0)
  rw [sumP_mirr, sumS_mirr] at this
  dsimp only at this
  omega
theorem span_mirr {l : List (Int × Int)} (h0 : ∀ d ∈ l, 0 ≤ d.1 ∧ 0 ≤ d.2) : spanL (mirr l) (0, 0) = spanL l (0, 0) := by
  refine Int.le_antisymm ?_ (span_mirr_le h0)
  have := span_mirr_le (l := mirr l) (fun d hd => by
    unfold mirr at hd
    rw [List.mem_reverse, List.mem_map] at hd
    obtain ⟨e, he, rfl⟩ := hd
    exact ⟨(h0 e he).2, (h0 e he).1⟩)
  rwa [mirr_mirr] at this
end Go.Proofs.Ytnoocdobldchoaa

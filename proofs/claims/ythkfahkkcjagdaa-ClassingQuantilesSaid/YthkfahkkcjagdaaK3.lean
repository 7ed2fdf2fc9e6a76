/- The merge of two sorted segments in place: the plain law. -/
import Derived.Test.YthkfahkkcjagdaaK2
namespace Go.Proofs.Ythkfahkkcjagdaa
open Go.RowKit Go.Proofs.YthkfahkkcjagdaaW.PrintWords Go.Proofs.YthkfahkkcjagdaaW.PrintMore Go.Proofs.YthkfahkkcjagdaaW.PrintLast

structure MergeOK (cf : Int → Int → Int) (L : Int → Int → Prop) (xs : List Int) (a m b : Nat) : Prop where
  l1 : a < m
  l2 : m < b
  le : b ≤ xs.length
  s1 : (seg xs a m).Pairwise L
  s2 : (seg xs m b).Pairwise L
  cr : ∀ x ∈ seg xs a m, ∀ y ∈ seg xs m b, (cf y x < 0 ↔ L y x) ∧ (L y x ∨ L x y)
  tr : ∀ x y z, L x y → L y z → L x z
section
variable {cf : Int → Int → Int} {L : Int → Int → Prop} {xs : List Int} {a m b s e : Nat}
/-- What a comparison of one of the right with one of the left tells. -/
theorem MergeOK.yes (h : MergeOK cf L xs a m b) {i j : Nat} (hi : a ≤ i ∧ i < m) (hj : m ≤ j ∧ j < b) (hc : cf (xs.getD j 0) (xs.getD i 0) < 0) : L (xs.getD j 0) (xs.getD i 0) := by
  have hl := h.le
  have := h.l2
  exact (h.cr _ (seg_mem hi.1 hi.2 (by omega)) _ (seg_mem hj.1 hj.2 (by omega))).1.1 hc
theorem MergeOK.no (h : MergeOK cf L xs a m b) {i j : Nat} (hi : a ≤ i ∧ i < m) (hj : m ≤ j ∧ j < b) (hc : ¬ cf (xs.getD j 0) (xs.getD i 0) < 0) : L (xs.getD i 0) (xs.getD j 0) := by
  have hl := h.le
  have := h.l2
  have k := h.cr _ (seg_mem hi.1 hi.2 (by omega)) _ (seg_mem hj.1 hj.2 (by omega))
  rcases k.2 with k2 | k2
  · exact absurd (k.1.2 k2) hc
  · exact k2
theorem MergeOK.up1 (h : MergeOK cf L xs a m b) {i j : Nat} (hi : a ≤ i) (hij : i ≤ j) (hj : j < m) : xs.getD i 0 = xs.getD j 0 ∨ L (xs.getD i 0) (xs.getD j 0) := by
  rcases (show i = j ∨ i < j by omega) with rfl | hlt
  · exact .inl rfl
  · have hl := h.le
    have := h.l2
    exact .inr (seg_pw h.s1 hi hlt hj (by omega))
theorem MergeOK.up2 (h : MergeOK cf L xs a m b) {i j : Nat} (hi : m ≤ i) (hij : i ≤ j) (hj : j < b) : xs.getD i 0 = xs.getD j 0 ∨ L (xs.getD i 0) (xs.getD j 0) := by
  rcases (show i = j ∨ i < j by omega) with rfl | hlt
  · exact .inl rfl
  · have hl := h.le
    exact .inr (seg_pw h.s2 hi hlt hj (by omega))
theorem MergeOK.chain (h : MergeOK cf L xs a m b) {x y z u : Int} (h1 : x = y ∨ L x y) (h2 : L y z) (h3 : z = u ∨ L z u) : L x u := by
  have h4 : L x z := by
    rcases h1 with rfl | h1
    · exact h2
    · exact h.tr _ _ _ h1 h2
  rcases h3 with rfl | h3
  · exact h4
  · exact h.tr _ _ _ h4 h3
/-- A place s in the left segment and a place e in the right one: the left ones ahead of s stand below the right ones from e on; the right ones ahead of e stand below the left ones from s on. -/
structure Cut (L : Int → Int → Prop) (xs : List Int) (a m b s e : Nat) : Prop where
  sa : a ≤ s
  sm : s ≤ m
  em : m ≤ e
  eb : e ≤ b
  c1 : ∀ i j, a ≤ i → i < s → e ≤ j → j < b → L (xs.getD i 0) (xs.getD j 0)
  c2 : ∀ i j, m ≤ j → j < e → s ≤ i → i < m → L (xs.getD j 0) (xs.getD i 0)
theorem Cut.of_edge (h : MergeOK cf L xs a m b) {s e : Nat} (sa : a ≤ s) (sm : s ≤ m) (em : m ≤ e) (eb : e ≤ b)
    (h1 : a < s → e < b → L (xs.getD (s - 1) 0) (xs.getD e 0)) (h2 : s < m → m < e → L (xs.getD (e - 1) 0) (xs.getD s 0)) : Cut L xs a m b s e :=
  ⟨sa, sm, em, eb, fun i j hi his hj hjb => h.chain (h.up1 hi (show i ≤ s - 1 by omega) (by omega)) (h1 (by omega) (by omega)) (h.up2 em hj hjb),
    fun i j hj hje hi him => h.chain (h.up2 hj (show j ≤ e - 1 by omega) (by omega)) (h2 (by omega) (by omega)) (h.up1 sa hi him)⟩
theorem Cut.segs (k : Cut L xs a m b s e) (hl : b ≤ xs.length) : seg (rotL xs s m e) a (s + (e - m)) = seg xs a s ++ seg xs m e ∧ seg (rotL xs s m e) (s + (e - m)) b = seg xs s m ++ seg xs e b := by
  obtain ⟨sa, sm, em, eb, _, _⟩ := k
  have hF := rotL_Fr xs sm em (by omega)
  obtain ⟨e1, e2⟩ := rotL_seg1 xs sm em (show e ≤ xs.length by omega)
  constructor
  · rw [seg_split _ sa (show s ≤ s + (e - m) by omega), e1, take_seg _ xs hF.lo (Nat.le_refl s)]
  · rw [seg_split _ (show s + (e - m) ≤ e by omega) eb, e2, drop_seg _ xs hF.len hF.hi (Nat.le_refl e)]
theorem Cut.cross (h : MergeOK cf L xs a m b) (k : Cut L xs a m b s e) : ∀ x ∈ seg xs a s ++ seg xs m e, ∀ y ∈ seg xs s m ++ seg xs e b, L x y := by
  intro x hx y hy
  have sa := k.sa
  have sm := k.sm
  have em := k.em
  have eb := k.eb
  have hl := h.le
  rcases List.mem_append.1 hx with hx | hx <;> rcases List.mem_append.1 hy with hy | hy
  · obtain ⟨i, hi1, hi2, hi3, rfl⟩ := mem_seg hx
    obtain ⟨j, hj1, hj2, hj3, rfl⟩ := mem_seg hy
    exact seg_pw h.s1 hi1 (by omega) hj2 hj3
  · obtain ⟨i, hi1, hi2, hi3, rfl⟩ := mem_seg hx
    obtain ⟨j, hj1, hj2, hj3, rfl⟩ := mem_seg hy
    exact k.c1 i j hi1 hi2 hj1 hj2
  · obtain ⟨j, hj1, hj2, hj3, rfl⟩ := mem_seg hx
    obtain ⟨i, hi1, hi2, hi3, rfl⟩ := mem_seg hy
    exact k.c2 i j hj1 hj2 hi1 hi2
  · obtain ⟨i, hi1, hi2, hi3, rfl⟩ := mem_seg hx
    obtain ⟨j, hj1, hj2, hj3, rfl⟩ := mem_seg hy
    exact seg_pw h.s2 hi1 (by omega) hj2 hj3
theorem MergeOK.parts (h : MergeOK cf L xs a m b) {s e : Nat} (sa : a ≤ s) (sm : s ≤ m) (em : m ≤ e) (eb : e ≤ b) : (seg xs a s).Pairwise L ∧ (seg xs s m).Pairwise L ∧ (seg xs m e).Pairwise L ∧ (seg xs e b).Pairwise L := by
  have s1 := h.s1
  have s2 := h.s2
  rw [seg_split xs sa sm] at s1
  rw [seg_split xs em eb] at s2
  obtain ⟨p1, p2, _⟩ := List.pairwise_append.1 s1
  obtain ⟨p3, p4, _⟩ := List.pairwise_append.1 s2
  exact ⟨p1, p2, p3, p4⟩
/-- What is left to be merged on the left. -/
theorem Cut.left (h : MergeOK cf L xs a m b) (k : Cut L xs a m b s e) (h1 : a < s) (h2 : m < e) : MergeOK cf L (rotL xs s m e) a s (s + (e - m)) := by
  have sm := k.sm
  have em := k.em
  have eb := k.eb
  have hl := h.le
  obtain ⟨p1, p2, p3, p4⟩ := h.parts k.sa sm em eb
  have hF := rotL_Fr xs sm em (show e ≤ xs.length by omega)
  obtain ⟨e1, e2⟩ := rotL_seg1 xs sm em (show e ≤ xs.length by omega)
  have e3 : seg (rotL xs s m e) a s = seg xs a s := take_seg _ xs hF.lo (Nat.le_refl s)
  refine ⟨h1, by omega, by rw [hF.len]; omega, by rw [e3]; exact p1, by rw [e1]; exact p3, ?_, h.tr⟩
  rw [e3, e1]
  intro x hx y hy
  refine h.cr x ?_ y ?_
  · rw [seg_split xs k.sa sm]; exact List.mem_append_left _ hx
  · rw [seg_split xs em eb]; exact List.mem_append_left _ hy
/-- .. and on the right, behind that. -/
theorem Cut.right (h : MergeOK cf L xs a m b) (k : Cut L xs a m b s e) {ys : List Int} (hy : Fr (rotL xs s m e) ys a (s + (e - m))) (h1 : s < m) (h2 : e < b) : MergeOK cf L ys (s + (e - m)) e b := by
  have sm := k.sm
  have em := k.em
  have eb := k.eb
  have hl := h.le
  obtain ⟨p1, p2, p3, p4⟩ := h.parts k.sa sm em eb
  have hF := rotL_Fr xs sm em (show e ≤ xs.length by omega)
  obtain ⟨e1, e2⟩ := rotL_seg1 xs sm em (show e ≤ xs.length by omega)
  have e3 : seg ys (s + (e - m)) e = seg xs s m := by rw [drop_seg ys _ hy.len hy.hi (Nat.le_refl _), e2]
  have e4 : seg ys e b = seg xs e b := by
    rw [drop_seg ys _ hy.len hy.hi (show s + (e - m) ≤ e by omega), drop_seg _ xs hF.len hF.hi (Nat.le_refl e)]
  refine ⟨by omega, h2, by rw [hy.len, hF.len]; omega, by rw [e3]; exact p2, by rw [e4]; exact p4, ?_, h.tr⟩
  rw [e3, e4]
  intro x hx y hy
  refine h.cr x ?_ y ?_
  · rw [seg_split xs k.sa sm]; exact List.mem_append_right _ hx
  · rw [seg_split xs em eb]; exact List.mem_append_right _ hy
/-- Both halves merged: all is sorted. -/
theorem Cut.done (h : MergeOK cf L xs a m b) (k : Cut L xs a m b s e) {ys zs : List Int} (hy : Fr (rotL xs s m e) ys a (s + (e - m))) (py : (seg ys a (s + (e - m))).Pairwise L) (hz : Fr ys zs (s + (e - m)) b) (pz : (seg zs (s + (e - m)) b).Pairwise L) :
    Fr xs zs a b ∧ (seg zs a b).Pairwise L := by
  have sa := k.sa
  have sm := k.sm
  have em := k.em
  have eb := k.eb
  have hl := h.le
  have hF := rotL_Fr xs sm em (show e ≤ xs.length by omega)
  refine ⟨((hF.mono sa (by omega) eb).trans (hy.mono (Nat.le_refl a) (by omega) (by omega))).trans (hz.mono (by omega) (by omega) (Nat.le_refl b)), ?_⟩
  obtain ⟨q1, q2⟩ := k.segs hl
  have e1 : seg zs a (s + (e - m)) = seg ys a (s + (e - m)) := take_seg zs ys hz.lo (Nat.le_refl _)
  rw [seg_split zs (show a ≤ s + (e - m) by omega) (show s + (e - m) ≤ b by omega), e1]
  refine List.pairwise_append.2 ⟨py, pz, fun x hx y hy2 => ?_⟩
  have hx2 := hy.perm.mem_iff.1 hx
  have hy3 := hz.perm.mem_iff.1 hy2
  rw [drop_seg ys _ hy.len hy.hi (Nat.le_refl _)] at hy3
  rw [q1] at hx2
  rw [q2] at hy3
  exact k.cross h x hx2 y hy3
/-- Where a half has nothing to be merged, it is sorted. -/
theorem Cut.left0 (h : MergeOK cf L xs a m b) (k : Cut L xs a m b s e) (hn : ¬ (a < s ∧ m < e)) : (seg (rotL xs s m e) a (s + (e - m))).Pairwise L := by
  have em := k.em
  have sa := k.sa
  obtain ⟨p1, p2, p3, p4⟩ := h.parts k.sa k.sm em k.eb
  rw [(k.segs h.le).1]
  rcases (show a = s ∨ m = e by omega) with h1 | h1
  · rw [← h1, seg_empty xs (Nat.le_refl a), List.nil_append]; exact p3
  · rw [← h1, seg_empty xs (Nat.le_refl m), List.append_nil]; exact p1
theorem Cut.right0 (h : MergeOK cf L xs a m b) (k : Cut L xs a m b s e) {ys : List Int} (hy : Fr (rotL xs s m e) ys a (s + (e - m))) (hn : ¬ (s < m ∧ e < b)) : (seg ys (s + (e - m)) b).Pairwise L := by
  have sm := k.sm
  have eb := k.eb
  obtain ⟨p1, p2, p3, p4⟩ := h.parts k.sa sm k.em eb
  rw [drop_seg ys _ hy.len hy.hi (Nat.le_refl _), (k.segs h.le).2]
  rcases (show s = m ∨ e = b by omega) with h1 | h1
  · rw [h1, seg_empty xs (Nat.le_refl m), List.nil_append]; exact p4
  · rw [h1, seg_empty xs (Nat.le_refl b), List.append_nil]; exact p2
/-- One on the left: it goes to its place. -/
theorem Cut.one_left (h : MergeOK cf L xs a m b) (k : Cut L xs a m b a e) (hm : m = a + 1) (hx : e < b → L (xs.getD a 0) (xs.getD e 0)) : Fr xs (rotL xs a m e) a b ∧ (seg (rotL xs a m e) a b).Pairwise L := by
  refine k.done h (Fr.refl _ _ _) (k.left0 h (by omega)) (Fr.refl _ _ _) ?_
  have em := k.em
  have eb := k.eb
  obtain ⟨p1, p2, p3, p4⟩ := h.parts k.sa k.sm em eb
  rw [(k.segs h.le).2]
  refine List.pairwise_append.2 ⟨p2, p4, fun x hx1 y hy => ?_⟩
  obtain ⟨i, hi1, hi2, hi3, rfl⟩ := mem_seg hx1
  obtain ⟨j, hj1, hj2, hj3, rfl⟩ := mem_seg hy
  obtain rfl : i = a := by omega
  exact h.chain (.inl rfl) (hx (by omega)) (h.up2 em hj1 hj2)
/-- One on the right. -/
theorem Cut.one_right (h : MergeOK cf L xs a m b) (k : Cut L xs a m b s b) (hm : b = m + 1) (hx : a < s → L (xs.getD (s - 1) 0) (xs.getD m 0)) : Fr xs (rotL xs s m b) a b ∧ (seg (rotL xs s m b) a b).Pairwise L := by
  have sa := k.sa
  have sm := k.sm
  obtain ⟨p1, p2, p3, p4⟩ := h.parts sa sm k.em k.eb
  refine k.done h (Fr.refl _ _ _) ?_ (Fr.refl _ _ _) (k.right0 h (Fr.refl _ _ _) (by omega))
  rw [(k.segs h.le).1]
  refine List.pairwise_append.2 ⟨p1, p3, fun x hx1 y hy => ?_⟩
  obtain ⟨i, hi1, hi2, hi3, rfl⟩ := mem_seg hx1
  obtain ⟨j, hj1, hj2, hj3, rfl⟩ := mem_seg hy
  obtain rfl : j = m := by omega
  exact h.chain (h.up1 hi1 (show i ≤ s - 1 by omega) (by omega)) (hx (by omega)) (.inl rfl)
/-- The one that goes up, a step further; the one that goes down. -/
theorem rot_up (xs : List Int) {a j : Nat} (h1 : a + 1 ≤ j) (h2 : j < xs.length) : swapL (rotL xs a (a + 1) j) (j - 1) j = rotL xs a (a + 1) (j + 1) := by
  obtain ⟨d, rfl⟩ : ∃ d, j = a + 1 + d := ⟨j - (a + 1), by omega⟩
  unfold rotL
  rw [seg_one xs (show a < xs.length by omega), List.drop_eq_getElem_cons h2, seg_split xs (show a + 1 ≤ a + 1 + d by omega) (show a + 1 + d ≤ a + 1 + d + 1 by omega), seg_one xs h2]
  have := swapL_mid (xs.take a ++ seg xs (a + 1) (a + 1 + d)) [] (xs.drop (a + 1 + d + 1)) (xs.getD a 0) xs[a + 1 + d] (a + 1 + d - 1) (a + 1 + d) (by
    rw [List.length_append, List.length_take, seg_length _ _ _ (by omega)]; omega) (by
    rw [List.length_append, List.length_take, seg_length _ _ _ (by omega)]; simp; omega)
  have e : xs.getD (a + 1 + d) 0 = xs[a + 1 + d] := by simp [List.getD_eq_getElem?_getD, List.getElem?_eq_getElem h2]
  rw [e]
  simp only [List.append_assoc, List.cons_append, List.nil_append] at this ⊢
  exact this
theorem rot_down (xs : List Int) {m i : Nat} (h1 : i + 1 ≤ m) (h2 : m < xs.length) : swapL (rotL xs (i + 1) m (m + 1)) i (i + 1) = rotL xs i m (m + 1) := by
  unfold rotL
  have hi : i < xs.length := by omega
  rw [seg_one xs h2, List.take_succ_eq_append_getElem hi, seg_split xs (show i ≤ i + 1 by omega) h1, seg_one xs hi]
  have e : xs.getD i 0 = xs[i] := by simp [List.getD_eq_getElem?_getD, List.getElem?_eq_getElem hi]
  rw [e]
  have := swapL_mid (xs.take i) [] (seg xs (i + 1) m ++ xs.drop (m + 1)) xs[i] (xs.getD m 0) i (i + 1) (by rw [List.length_take]; omega) (by rw [List.length_take]; simp; omega)
  simp only [List.append_assoc, List.cons_append, List.nil_append] at this ⊢
  exact this
end
end Go.Proofs.Ythkfahkkcjagdaa

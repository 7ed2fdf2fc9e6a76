/- Plain facts on segments of lists: a rotation, and the merge of two sorted segments in place. -/
import Derived.Test.YthkfahkkcjagdaaG3
namespace Go.Proofs.Ythkfahkkcjagdaa
open Go.RowKit Go.Proofs.YthkfahkkcjagdaaW.PrintWords Go.Proofs.YthkfahkkcjagdaaW.PrintMore Go.Proofs.YthkfahkkcjagdaaW.PrintLast

/-- The elements from a up to b. -/
def seg (xs : List Int) (a b : Nat) : List Int := (xs.take b).drop a
theorem seg_length (xs : List Int) (a b : Nat) (h : b ≤ xs.length) : (seg xs a b).length = b - a := by unfold seg; rw [List.length_drop, List.length_take]; omega
theorem seg_get (xs : List Int) (a b i : Nat) (h : i < b - a) : (seg xs a b)[i]? = xs[a + i]? := by
  unfold seg; rw [List.getElem?_drop, List.getElem?_take, if_pos (by omega)]
theorem seg_empty (xs : List Int) {a b : Nat} (h : b ≤ a) : seg xs a b = [] := by
  unfold seg; apply List.drop_eq_nil_of_le; rw [List.length_take]; omega
theorem seg_split (xs : List Int) {a m b : Nat} (h1 : a ≤ m) (h2 : m ≤ b) : seg xs a b = seg xs a m ++ seg xs m b := by
  have key : ∀ ys : List Int, ys.drop a = (ys.take m).drop a ++ ys.drop m := fun ys => by
    have e1 : (ys.take m).drop a = (ys.drop a).take (m - a) := List.drop_take
    have e2 : ys.drop m = (ys.drop a).drop (m - a) := by rw [List.drop_drop]; congr 1; omega
    rw [e1, e2, List.take_append_drop]
  unfold seg
  have e : xs.take m = (xs.take b).take m := by rw [List.take_take, Nat.min_eq_left h2]
  rw [e]
  exact key _
theorem seg_one (xs : List Int) {a : Nat} (h : a < xs.length) : seg xs a (a + 1) = [xs.getD a 0] := by
  unfold seg
  rw [List.take_succ_eq_append_getElem h, List.drop_append, List.length_take, List.drop_eq_nil_of_le (by rw [List.length_take]; omega), show a - min a xs.length = 0 by omega]
  simp [List.getD_eq_getElem?_getD, List.getElem?_eq_getElem h]
theorem seg_whole (xs : List Int) {a b : Nat} (h : a ≤ b) : xs = xs.take a ++ (seg xs a b ++ xs.drop b) := by
  unfold seg
  have : xs.take a = (xs.take b).take a := by rw [List.take_take, Nat.min_eq_left h]
  rw [← List.append_assoc, this, List.take_append_drop, List.take_append_drop]
theorem mem_seg {xs : List Int} {a b : Nat} {x : Int} (h : x ∈ seg xs a b) : ∃ i, a ≤ i ∧ i < b ∧ i < xs.length ∧ xs.getD i 0 = x := by
  obtain ⟨i, hi, rfl⟩ := List.mem_iff_getElem.1 h
  have hl : i < b - a ∧ a + i < xs.length := by
    unfold seg at hi; rw [List.length_drop, List.length_take] at hi; omega
  refine ⟨a + i, by omega, by omega, hl.2, ?_⟩
  have := seg_get xs a b i hl.1
  rw [List.getElem?_eq_getElem hi] at this
  rw [List.getD_eq_getElem?_getD, ← this]; rfl
theorem seg_mem {xs : List Int} {a b i : Nat} (h1 : a ≤ i) (h2 : i < b) (h3 : i < xs.length) : xs.getD i 0 ∈ seg xs a b := by
  have := seg_get xs a b (i - a) (by omega)
  rw [show a + (i - a) = i by omega, List.getElem?_eq_getElem h3] at this
  rw [List.getD_eq_getElem?_getD, List.getElem?_eq_getElem h3]
  exact List.mem_of_getElem? this
theorem seg_pw {L : Int → Int → Prop} {xs : List Int} {a b : Nat} (h : (seg xs a b).Pairwise L) {i j : Nat} (h1 : a ≤ i) (h2 : i < j) (h3 : j < b) (h4 : j < xs.length) : L (xs.getD i 0) (xs.getD j 0) := by
  rw [seg_split xs (show a ≤ j by omega) (show j ≤ b by omega)] at h
  exact (List.pairwise_append.1 h).2.2 _ (seg_mem h1 h2 (by omega)) _ (seg_mem (Nat.le_refl _) h3 h4)
/-- The segments from a to m and from m to b in the other order. -/
def rotL (xs : List Int) (a m b : Nat) : List Int := xs.take a ++ ((seg xs m b ++ seg xs a m) ++ xs.drop b)
theorem rotL_length (xs : List Int) {a m b : Nat} (h1 : a ≤ m) (h2 : m ≤ b) (h3 : b ≤ xs.length) : (rotL xs a m b).length = xs.length := by
  unfold rotL
  rw [List.length_append, List.length_append, List.length_append, seg_length _ _ _ h3, seg_length _ _ _ (by omega), List.length_take, List.length_drop]
  omega
theorem rotL_left (xs : List Int) {a b : Nat} (h : a ≤ b) : rotL xs a a b = xs := by
  unfold rotL; rw [seg_empty xs (Nat.le_refl a), List.append_nil]; exact (seg_whole xs h).symm
theorem rotL_right (xs : List Int) {a b : Nat} (h : a ≤ b) : rotL xs a b b = xs := by
  unfold rotL; rw [seg_empty xs (Nat.le_refl b), List.nil_append]; exact (seg_whole xs h).symm
/-- What only turns within a segment. -/
structure Fr (xs ys : List Int) (a b : Nat) : Prop where
  len : ys.length = xs.length
  lo : ys.take a = xs.take a
  hi : ys.drop b = xs.drop b
  perm : (seg ys a b).Perm (seg xs a b)
theorem take_seg (ys xs : List Int) {a : Nat} (h : ys.take a = xs.take a) {i j : Nat} (hj : j ≤ a) : seg ys i j = seg xs i j := by
  unfold seg
  have : ys.take j = xs.take j := by
    have e := congrArg (List.take j) h
    rwa [List.take_take, List.take_take, Nat.min_eq_left hj] at e
  rw [this]
theorem drop_seg (ys xs : List Int) {b : Nat} (_ : ys.length = xs.length) (h : ys.drop b = xs.drop b) {i j : Nat} (hi : b ≤ i) : seg ys i j = seg xs i j := by
  have : ∀ zs : List Int, seg zs i j = ((zs.drop b).drop (i - b)).take (j - i) := fun zs => by
    unfold seg
    rw [List.drop_take, List.drop_drop]
    congr 1
    congr 1
    omega
  rw [this, this, h]
theorem Fr.trans {xs ys zs : List Int} {a b : Nat} (h : Fr xs ys a b) (k : Fr ys zs a b) : Fr xs zs a b :=
  ⟨k.len.trans h.len, k.lo.trans h.lo, k.hi.trans h.hi, k.perm.trans h.perm⟩
theorem Fr.refl (xs : List Int) (a b : Nat) : Fr xs xs a b := ⟨rfl, rfl, rfl, List.Perm.refl _⟩
theorem Fr.mono {xs ys : List Int} {a b a' b' : Nat} (h : Fr xs ys a' b') (h1 : a ≤ a') (h2 : a' ≤ b') (h3 : b' ≤ b) : Fr xs ys a b := by
  refine ⟨h.len, ?_, ?_, ?_⟩
  · have e := congrArg (List.take a) h.lo
    rwa [List.take_take, List.take_take, Nat.min_eq_left h1] at e
  · have e := congrArg (List.drop (b - b')) h.hi
    rw [List.drop_drop, List.drop_drop] at e
    rwa [show b' + (b - b') = b by omega] at e
  · rw [seg_split ys h1 (show a' ≤ b by omega), seg_split xs h1 (show a' ≤ b by omega), seg_split ys h2 h3, seg_split xs h2 h3, take_seg ys xs h.lo (Nat.le_refl a'), drop_seg ys xs h.len h.hi (Nat.le_refl b')]
    exact List.Perm.append_left _ (h.perm.append_right _)
theorem rotL_take (xs : List Int) {a m b : Nat} (h3 : a ≤ xs.length) : (rotL xs a m b).take a = xs.take a := by
  unfold rotL
  rw [List.take_append, List.length_take, show a - min a xs.length = 0 by omega, List.take_zero, List.append_nil, List.take_take, Nat.min_self]
theorem rotL_drop (xs : List Int) {a m b : Nat} (h1 : a ≤ m) (h2 : m ≤ b) (h3 : b ≤ xs.length) : (rotL xs a m b).drop b = xs.drop b := by
  unfold rotL
  rw [← List.append_assoc]
  have hl : (xs.take a ++ (seg xs m b ++ seg xs a m)).length = b := by
    rw [List.length_append, List.length_append, seg_length _ _ _ h3, seg_length _ _ _ (by omega), List.length_take]; omega
  rw [List.drop_append, hl, Nat.sub_self, List.drop_zero, List.drop_eq_nil_of_le (by omega), List.nil_append]
theorem rotL_seg (xs : List Int) {a m b : Nat} (h1 : a ≤ m) (h2 : m ≤ b) (h3 : b ≤ xs.length) : seg (rotL xs a m b) a b = seg xs m b ++ seg xs a m := by
  have hl : (xs.take a ++ (seg xs m b ++ seg xs a m)).length = b := by
    rw [List.length_append, List.length_append, seg_length _ _ _ h3, seg_length _ _ _ (by omega), List.length_take]; omega
  have e : (rotL xs a m b).take b = xs.take a ++ (seg xs m b ++ seg xs a m) := by
    unfold rotL
    rw [← List.append_assoc, List.take_append, hl, Nat.sub_self, List.take_zero, List.append_nil, List.take_of_length_le (by omega)]
  show ((rotL xs a m b).take b).drop a = _
  rw [e, List.drop_append, List.length_take, show a - min a xs.length = 0 by omega, List.drop_zero, List.drop_eq_nil_of_le (by rw [List.length_take]; omega), List.nil_append]
theorem rotL_Fr (xs : List Int) {a m b : Nat} (h1 : a ≤ m) (h2 : m ≤ b) (h3 : b ≤ xs.length) : Fr xs (rotL xs a m b) a b :=
  ⟨rotL_length xs h1 h2 h3, rotL_take xs (by omega), rotL_drop xs h1 h2 h3, by rw [rotL_seg xs h1 h2 h3, seg_split xs h1 h2]; exact List.perm_append_comm⟩
/-- The rotation's two parts: as far as the length of the second, and behind it. -/
theorem rotL_seg1 (xs : List Int) {a m b : Nat} (h1 : a ≤ m) (h2 : m ≤ b) (h3 : b ≤ xs.length) : seg (rotL xs a m b) a (a + (b - m)) = seg xs m b ∧ seg (rotL xs a m b) (a + (b - m)) b = seg xs a m := by
  have e := rotL_seg xs h1 h2 h3
  rw [seg_split _ (show a ≤ a + (b - m) by omega) (show a + (b - m) ≤ b by omega)] at e
  exact List.append_inj e (by rw [seg_length _ _ _ (by rw [rotL_length xs h1 h2 h3]; omega), seg_length _ _ _ h3]; omega)

/-! ### The swap of two blocks -/
theorem set_mid (X Y : List Int) (u v : Int) (n : Nat) (h : n = X.length) : (X ++ u :: Y).set n v = X ++ v :: Y := by
  subst h
  rw [List.set_append_right _ _ (Nat.le_refl _), Nat.sub_self, List.set_cons_zero]
theorem get_mid (X Y : List Int) (u : Int) (n : Nat) (h : n = X.length) : (X ++ u :: Y).getD n 0 = u := by
  subst h
  simp [List.getD_eq_getElem?_getD]
/-- Two elements in the other order. -/
def swapL (xs : List Int) (i j : Nat) : List Int := (xs.set i (xs.getD j 0)).set j (xs.getD i 0)
theorem swapL_length (xs : List Int) (i j : Nat) : (swapL xs i j).length = xs.length := by unfold swapL; simp
theorem swapL_mid (X Y Z : List Int) (u v : Int) (i j : Nat) (hi : i = X.length) (hj : j = X.length + 1 + Y.length) : swapL (X ++ u :: (Y ++ v :: Z)) i j = X ++ v :: (Y ++ u :: Z) := by
  have e1 : (X ++ u :: (Y ++ v :: Z)).getD j 0 = v := by
    have := get_mid (X ++ u :: Y) Z v j (by simp; omega)
    simpa using this
  have e2 : (X ++ u :: (Y ++ v :: Z)).getD i 0 = u := get_mid X _ u i hi
  unfold swapL
  rw [e1, e2, set_mid X _ u v i hi]
  have := set_mid (X ++ v :: Y) Z v u j (by simp; omega)
  simpa using this
/-- So many swaps, one beside the other. -/
def swapN (xs : List Int) (a b : Nat) : Nat → List Int
  | 0 => xs
  | n + 1 => swapL (swapN xs a b n) (a + n) (b + n)
theorem swapN_spec (P M Q : List Int) : ∀ (n : Nat) (U V : List Int) (a b : Nat), n ≤ U.length → U.length = V.length → a = P.length → b = P.length + U.length + M.length →
    swapN (P ++ (U ++ (M ++ (V ++ Q)))) a b n = P ++ ((V.take n ++ U.drop n) ++ (M ++ ((U.take n ++ V.drop n) ++ Q))) := by
  intro n
  induction n with
  | zero => intro U V a b _ _ _ _; simp [swapN]
  | succ n ih =>
    intro U V a b hn hl ha hb
    unfold swapN
    rw [ih U V a b (by omega) hl ha hb]
    have hU : n < U.length := by omega
    have hV : n < V.length := by omega
    rw [List.drop_eq_getElem_cons hU, List.drop_eq_getElem_cons hV, List.take_succ_eq_append_getElem hU, List.take_succ_eq_append_getElem hV]
    have := swapL_mid (P ++ V.take n) (U.drop (n + 1) ++ (M ++ U.take n)) (V.drop (n + 1) ++ Q) U[n] V[n] (a + n) (b + n) (by rw [List.length_append, List.length_take]; omega) (by
      rw [List.length_append, List.length_append, List.length_append, List.length_take, List.length_take, List.length_drop]; omega)
    simp only [List.append_assoc, List.cons_append, List.nil_append] at this ⊢
    exact this
theorem swapN_length (xs : List Int) (a b : Nat) : ∀ n, (swapN xs a b n).length = xs.length
  | 0 => rfl
  | n + 1 => by unfold swapN; rw [swapL_length, swapN_length xs a b n]
theorem swapN_all (P M Q U V : List Int) {a b n : Nat} (hn : n = U.length) (hl : U.length = V.length) (ha : a = P.length) (hb : b = P.length + U.length + M.length) :
    swapN (P ++ (U ++ (M ++ (V ++ Q)))) a b n = P ++ (V ++ (M ++ (U ++ Q))) := by
  rw [swapN_spec P M Q n U V a b (by omega) hl ha hb, List.take_of_length_le (by omega), List.drop_eq_nil_of_le (by omega), List.take_of_length_le (by omega), List.drop_eq_nil_of_le (by omega)]
  simp
/-- The rotation by swaps of blocks: what it comes to. -/
theorem rot_split (xs : List Int) {a m b : Nat} (h1 : a ≤ m) (h2 : m ≤ b) (h3 : b ≤ xs.length) : ∃ P U V Q, xs = P ++ (U ++ (V ++ Q)) ∧ P.length = a ∧ U.length = m - a ∧ V.length = b - m ∧ rotL xs a m b = P ++ (V ++ (U ++ Q)) := by
  refine ⟨xs.take a, seg xs a m, seg xs m b, xs.drop b, ?_, by rw [List.length_take]; omega, seg_length _ _ _ (by omega), seg_length _ _ _ h3, ?_⟩
  · have := seg_whole xs (show a ≤ b by omega)
    rw [seg_split xs h1 h2, List.append_assoc] at this
    exact this
  · unfold rotL; rw [List.append_assoc]
end Go.Proofs.Ythkfahkkcjagdaa

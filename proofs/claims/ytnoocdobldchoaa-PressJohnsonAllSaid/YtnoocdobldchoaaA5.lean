/- Packings, as plain mathematics: the search finds the least way in lexicographic order, and one whenever there is any. -/
import Derived.Test.YtnoocdobldchoaaA1
import Derived.Test.YtnoocdobldchoaaA4
namespace Go.Proofs.Ytnoocdobldchoaa
open Go.RowKit Go.Proofs.YtnoocdobldchoaaW.PrintWords Go.Proofs.YtnoocdobldchoaaW.PrintMore Go.Proofs.YtnoocdobldchoaaW.PrintLast

/-! ### Packings, as plain mathematics: the search finds the least way in lexicographic order, and one whenever there is any. -/
/-- A box's content behind one thing more. -/
def put (f : Nat → Int × Int) (b : Nat) (m : Int) : Nat → Int × Int := fun k => if k = b then ((f b).1 + m, (f b).2 + 1) else f k

/-- An assignment to boxes below k, from a content on. -/
def Free (most each : Int) (k : Int) : List Int → (Nat → Int × Int) → List Int → Prop
  | [], _, l => l = []
  | m :: ms, f, l => ∃ (b : Nat) (l' : List Int), l = (b : Int) :: l' ∧ (b : Int) < k ∧ (f b).1 + m ≤ most ∧ (f b).2 < each ∧ Free most each k ms (put f b m) l'
/-- The same, and each new box is the one with the lowest number. -/
def Way (most each : Int) (k : Int) : List Int → Int → (Nat → Int × Int) → List Int → Prop
  | [], _, _, l => l = []
  | m :: ms, used, f, l => ∃ (b : Nat) (l' : List Int), l = (b : Int) :: l' ∧ (b : Int) < k ∧ (b : Int) ≤ used ∧ (f b).1 + m ≤ most ∧ (f b).2 < each ∧ Way most each k ms (max used (b + 1)) (put f b m) l'
/-- Less or equal in lexicographic order (of lists of one length). -/
def LexLe : List Int → List Int → Prop
  | [], _ => True
  | _ :: _, [] => False
  | x :: xs, y :: ys => x < y ∨ (x = y ∧ LexLe xs ys)
theorem LexLe.refl : ∀ l, LexLe l l
  | [] => trivial
  | _ :: xs => .inr ⟨rfl, LexLe.refl xs⟩
theorem LexLe.trans : ∀ {a b c : List Int}, LexLe a b → LexLe b c → LexLe a c
  | [], _, _, _, _ => trivial
  | _ :: _, [], _, h, _ => h.elim
  | _ :: _, _ :: _, [], _, h => h.elim
  | x :: xs, y :: ys, z :: zs, h, k => by
    rcases h with h | ⟨rfl, h⟩ <;> rcases k with k | ⟨rfl, k⟩
    · exact .inl (by omega)
    · exact .inl h
    · exact .inl k
    · exact .inr ⟨rfl, h.trans k⟩
theorem LexLe.antisymm : ∀ {a b : List Int}, a.length = b.length → LexLe a b → LexLe b a → a = b
  | [], [], _, _, _ => rfl
  | x :: xs, y :: ys, hl, h, k => by
    rcases h with h | ⟨rfl, h⟩
    · rcases k with k | ⟨rfl, k⟩ <;> omega
    · rcases k with k | ⟨_, k⟩
      · omega
      · rw [h.antisymm (by simpa using hl) k]

theorem Way.free {most each k : Int} : ∀ {ms : List Int} {used : Int} {f : Nat → Int × Int} {l : List Int}, Way most each k ms used f l → Free most each k ms f l
  | [], _, _, _, h => h
  | _ :: _, _, _, _, ⟨b, l', h1, h2, _, h4, h5, h6⟩ => ⟨b, l', h1, h2, h4, h5, h6.free⟩
theorem Free.length {most each k : Int} : ∀ {ms : List Int} {f : Nat → Int × Int} {l : List Int}, Free most each k ms f l → l.length = ms.length
  | [], _, _, h => by simp [Free] at h; simp [h]
  | _ :: _, _, _, ⟨b, l', h1, _, _, _, h6⟩ => by rw [h1]; simp [h6.length]

/-- Two boxes change places. -/
def swp (b c : Nat) (x : Nat) : Nat := if x = b then c else if x = c then b else x
def swpI (b c : Nat) (x : Int) : Int := if x = b then c else if x = c then b else x
theorem swp_swp (b c x : Nat) : swp b c (swp b c x) = x := by unfold swp; (repeat' split) <;> omega
theorem swpI_nat (b c x : Nat) : swpI b c (x : Int) = ((swp b c x : Nat) : Int) := by unfold swpI swp; (repeat' split) <;> omega
theorem put_swp (f : Nat → Int × Int) (b c x : Nat) (m : Int) : put (fun k => f (swp b c k)) (swp b c x) m = fun k => put f x m (swp b c k) := by
  funext k
  unfold put
  dsimp only
  rw [swp_swp]
  by_cases h : k = swp b c x
  · rw [if_pos h, if_pos (by rw [h, swp_swp])]
  · rw [if_neg h, if_neg (fun e => h (by rw [← e, swp_swp]))]
theorem Free.swap {most each k : Int} (b c : Nat) (hb : (b : Int) < k) (hc : (c : Int) < k) : ∀ {ms : List Int} {f : Nat → Int × Int} {l : List Int}, Free most each k ms f l → Free most each k ms (fun x => f (swp b c x)) (l.map (swpI b c))
  | [], _, _, h => by rw [h]; rfl
  | m :: ms, f, _, ⟨x, l', h1, h2, h4, h5, h6⟩ => by
    refine ⟨swp b c x, l'.map (swpI b c), by rw [h1, List.map_cons, swpI_nat], ?_, by dsimp only; rw [swp_swp]; exact h4, by dsimp only; rw [swp_swp]; exact h5, ?_⟩
    · unfold swp; (repeat' split) <;> omega
    · rw [put_swp]
      exact h6.swap b c hb hc

/-- Any assignment can be numbered anew, so that it is a way, and no later in lexicographic order. -/
theorem Free.way {most each k : Int} : ∀ {ms : List Int} {f : Nat → Int × Int} {l : List Int} (used : Nat), (∀ b, used ≤ b → f b = (0, 0)) → Free most each k ms f l → ∃ l', Way most each k ms used f l' ∧ LexLe l' l
  | [], _, l, _, _, h => ⟨[], rfl, trivial⟩
  | m :: ms, f, l, used, hf, ⟨b, l1, h1, h2, h4, h5, h6⟩ => by
    by_cases hb : b ≤ used
    · have hf' : ∀ x, max used (b + 1) ≤ x → put f b m x = (0, 0) := fun x hx => by
        unfold put
        rw [if_neg (by omega)]
        exact hf x (by omega)
      obtain ⟨l', hw, hl⟩ := Free.way (max used (b + 1)) hf' h6
      refine ⟨b :: l', ⟨b, l', rfl, h2, by omega, h4, h5, ?_⟩, ?_⟩
      · rw [show (max (used : Int) ((b : Int) + 1)) = ((max used (b + 1) : Nat) : Int) by omega]
        exact hw
      · rw [h1]; exact .inr ⟨rfl, hl⟩
    · have hub : f used = (0, 0) := hf used (Nat.le_refl _)
      have hbb : f b = (0, 0) := hf b (by omega)
      have hs := h6.swap b used h2 (by omega)
      have he : (fun x => put f b m (swp b used x)) = put f used m := by
        have h7 := put_swp f b used b m
        have h8 : (fun k => f (swp b used k)) = f := by
          funext x
          unfold swp
          split
          · rename_i h; rw [h, hub, hbb]
          · split
            · rename_i h; rw [h, hub, hbb]
            · rfl
        rw [h8] at h7
        rw [← h7]
        unfold swp
        rw [if_pos rfl]
      rw [he] at hs
      have hf' : ∀ x, max used (used + 1) ≤ x → put f used m x = (0, 0) := fun x hx => by
        unfold put
        rw [if_neg (by omega)]
        exact hf x (by omega)
      obtain ⟨l', hw, _⟩ := Free.way (max used (used + 1)) hf' hs
      refine ⟨used :: l', ⟨used, l', rfl, by omega, by omega, by rw [hub, ← hbb]; exact h4, by rw [hub, ← hbb]; exact h5, ?_⟩, ?_⟩
      · rw [show (max (used : Int) ((used : Int) + 1)) = ((max used (used + 1) : Nat) : Int) by omega]
        exact hw
      · rw [h1]; exact .inl (by omega)

/-- The search over contents that are lists finds the first way. -/
theorem dfs_spec {most each limit : Int} : ∀ (ms : List Int) (used : Int) (bx : List (Int × Int)), 0 ≤ used → (limit ≤ bx.length ∨ used + ms.length ≤ bx.length) → (∀ b, (bx.getD b (0, 0)).2 ≤ each) →
    (∀ l, dfs most each limit ms used bx = some l → Way most each limit ms used (fun b => bx.getD b (0, 0)) l ∧ ∀ l', Way most each limit ms used (fun b => bx.getD b (0, 0)) l' → LexLe l l') ∧
    (dfs most each limit ms used bx = none → ∀ l', ¬ Way most each limit ms used (fun b => bx.getD b (0, 0)) l') := by
  intro ms
  induction ms with
  | nil =>
    intro used bx _ _ _
    refine ⟨fun l h => ?_, fun h => by simp [dfs] at h⟩
    simp [dfs] at h
    subst h
    exact ⟨rfl, fun _ _ => trivial⟩
  | cons m ms ih =>
    intro used bx hu hlen hec
    have hput : ∀ b : Nat, (b : Int) < min (used + 1) limit → (fun x => (bx.set b ((bx.getD b (0, 0)).1 + m, (bx.getD b (0, 0)).2 + 1)).getD x (0, 0)) = put (fun b => bx.getD b (0, 0)) b m := by
      intro b hb
      have hbl : b < bx.length := by simp at hlen; omega
      funext x
      unfold put
      simp only [List.getD_eq_getElem?_getD, List.getElem?_set]
      by_cases hx : b = x
      · subst hx; rw [if_pos rfl, if_pos hbl, if_pos rfl]; rfl
      · rw [if_neg hx, if_neg (Ne.symm hx)]
    have hnext : ∀ b : Nat, (b : Int) < min (used + 1) limit → (limit ≤ (bx.set b ((bx.getD b (0, 0)).1 + m, (bx.getD b (0, 0)).2 + 1)).length ∨ max used (b + 1) + ms.length ≤ (bx.set b ((bx.getD b (0, 0)).1 + m, (bx.getD b (0, 0)).2 + 1)).length) := by
      intro b hb
      simp at hlen ⊢
      omega
    have hec2 : ∀ b : Nat, (b : Int) < min (used + 1) limit → (bx.getD b (0, 0)).2 < each → ∀ x, ((bx.set b ((bx.getD b (0, 0)).1 + m, (bx.getD b (0, 0)).2 + 1)).getD x (0, 0)).2 ≤ each := by
      intro b hb hlt x
      have := congrFun (hput b hb) x
      rw [show ((bx.set b ((bx.getD b (0, 0)).1 + m, (bx.getD b (0, 0)).2 + 1)).getD x (0, 0)) = put (fun b => bx.getD b (0, 0)) b m x from this]
      unfold put
      split
      · dsimp only; omega
      · exact hec x
    -- what a try says
    have htry : ∀ b : Nat, (b : Int) < min (used + 1) limit →
        (∀ l, try_ most each limit m ms used bx b = some l → ∃ l1, l = (b : Int) :: l1 ∧ (bx.getD b (0, 0)).1 + m ≤ most ∧ (bx.getD b (0, 0)).2 < each ∧ Way most each limit ms (max used (b + 1)) (put (fun b => bx.getD b (0, 0)) b m) l1 ∧ ∀ l', Way most each limit ms (max used (b + 1)) (put (fun b => bx.getD b (0, 0)) b m) l' → LexLe l1 l') ∧
        (try_ most each limit m ms used bx b = none → (bx.getD b (0, 0)).1 + m ≤ most → (bx.getD b (0, 0)).2 < each → ∀ l', ¬ Way most each limit ms (max used (b + 1)) (put (fun b => bx.getD b (0, 0)) b m) l') := by
      intro b hb
      unfold try_
      by_cases hc : most < (bx.getD b (0, 0)).1 + m ∨ (bx.getD b (0, 0)).2 = each
      · rw [if_pos hc]
        exact ⟨fun l h => by simp at h, fun _ h1 h2 => by omega⟩
      · rw [if_neg hc]
        have hlt : (bx.getD b (0, 0)).2 < each := by have := hec b; omega
        obtain ⟨h1, h2⟩ := ih (max used (b + 1)) _ (by omega) (hnext b hb) (hec2 b hb hlt)
        rw [hput b hb] at h1 h2
        refine ⟨fun l h => ?_, fun h _ _ => ?_⟩
        · obtain ⟨l1, h3, rfl⟩ := Option.map_eq_some_iff.1 h
          exact ⟨l1, rfl, by omega, hlt, (h1 l1 h3).1, (h1 l1 h3).2⟩
        · exact h2 (Option.map_eq_none_iff.1 h)
    constructor
    · intro l h
      rw [dfs_cons] at h
      obtain ⟨xs, b, ys, hr, hb, hno⟩ := List.findSome?_eq_some_iff.1 h
      have hxs : ∀ a ∈ xs, a < b := by
        have hp : List.Pairwise (· < ·) (xs ++ b :: ys) := by rw [← hr]; exact List.pairwise_lt_range
        exact fun a ha => (List.pairwise_append.1 hp).2.2 a ha b List.mem_cons_self
      have hxs2 : ∀ a, a < b → a ∈ xs := by
        intro a ha
        have hbm : b < (min (used + 1) limit).toNat := by
          have : b ∈ List.range (min (used + 1) limit).toNat := by rw [hr]; simp
          exact List.mem_range.1 this
        have : a ∈ List.range (min (used + 1) limit).toNat := List.mem_range.2 (by omega)
        rw [hr] at this
        rcases List.mem_append.1 this with h1 | h1
        · exact h1
        · have hp : List.Pairwise (· < ·) (xs ++ b :: ys) := by rw [← hr]; exact List.pairwise_lt_range
          rcases List.mem_cons.1 h1 with h2 | h2
          · omega
          · have := List.rel_of_pairwise_cons (List.pairwise_append.1 hp).2.1 h2
            omega
      have hbm : (b : Int) < min (used + 1) limit := by
        have : b ∈ List.range (min (used + 1) limit).toNat := by rw [hr]; simp
        have := List.mem_range.1 this
        omega
      obtain ⟨l1, rfl, h1, h2, h3, h4⟩ := (htry b hbm).1 l hb
      refine ⟨⟨b, l1, rfl, by omega, by omega, h1, h2, h3⟩, ?_⟩
      rintro l' ⟨b', l1', rfl, g1, g2, g3, g4, g5⟩
      rcases Nat.lt_trichotomy b b' with hlt | rfl | hgt
      · exact .inl (by omega)
      · exact .inr ⟨rfl, h4 _ g5⟩
      · exact absurd g5 ((htry b' (by omega)).2 (hno b' (hxs2 b' hgt)) g3 g4 l1')
    · intro h
      rw [dfs_cons] at h
      rintro l' ⟨b', l1', rfl, g1, g2, g3, g4, g5⟩
      have := List.findSome?_eq_none_iff.1 h b' (List.mem_range.2 (by omega))
      exact (htry b' (by omega)).2 this g3 g4 l1' g5

/-! ### The lower bound is one: no assignment has fewer boxes; and both ways to reckon it agree. -/
def tot : Nat → (Nat → Int) → Int
  | 0, _ => 0
  | k + 1, g => tot k g + g k
theorem tot_congr {g h : Nat → Int} : ∀ k, (∀ j, j < k → g j = h j) → tot k g = tot k h
  | 0, _ => rfl
  | k + 1, e => by unfold tot; rw [tot_congr k (fun j hj => e j (by omega)), e k (by omega)]
theorem tot_upd (g : Nat → Int) (b : Nat) (d : Int) : ∀ k, tot k (fun x => if x = b then g x + d else g x) = tot k g + if b < k then d else 0
  | 0 => by simp [tot]
  | k + 1 => by
    unfold tot
    rw [tot_upd g b d k]
    dsimp only
    by_cases h : k = b
    · subst h; simp; omega
    · rw [if_neg h]
      by_cases h2 : b < k
      · rw [if_pos h2, if_pos (by omega)]; omega
      · rw [if_neg h2, if_neg (by omega)]; omega
theorem tot_le {g h : Nat → Int} : ∀ k, (∀ j, j < k → g j ≤ h j) → tot k g ≤ tot k h
  | 0, _ => Int.le_refl _
  | k + 1, e => by unfold tot; have := tot_le k (fun j hj => e j (by omega)); have := e k (by omega); omega
theorem tot_add (g h : Nat → Int) : ∀ k, tot k (fun j => g j + h j) = tot k g + tot k h
  | 0 => rfl
  | k + 1 => by unfold tot; rw [tot_add g h k]; dsimp only; omega
theorem tot_room (g : Nat → Int) (c : Int) : ∀ k : Nat, tot k (fun j => (1 - g j) * c) = (k - tot k g) * c
  | 0 => by simp [tot]
  | k + 1 => by
    unfold tot; rw [tot_room g c k, ← Int.add_mul]
    congr 1; push_cast; omega
theorem tot_zero : ∀ k, tot k (fun _ => 0) = 0
  | 0 => rfl
  | k + 1 => by unfold tot; rw [tot_zero k]; rfl

def BoxInv (most a mass L M H S : Int) : Prop :=
  (L = 0 ∨ L = 1) ∧ (M = 0 ∨ M = 1) ∧ L + M ≤ 1 ∧ (M = 0 → H = 0) ∧ (M = 1 → most < 2 * H) ∧ (L = 1 → S = 0) ∧ 0 ≤ S ∧ (S = 0 ∨ a ≤ S) ∧ mass ≤ most ∧ H + S + (if L = 1 then most - a + 1 else 0) ≤ mass

/-- What the masses of the boxes are made of, behind all things. -/
theorem free_stats {most each a : Int} {k : Nat} (ha : 0 ≤ a) (ha2 : 2 * a ≤ most) : ∀ (ms : List Int) (f : Nat → Int × Int) (l : List Int), Free most each k ms f l → (∀ m ∈ ms, 1 ≤ m) → ∀ (L M H S : Nat → Int),
    (∀ j, BoxInv most a (f j).1 (L j) (M j) (H j) (S j)) →
    ∃ (g : Nat → Int) (L' M' H' S' : Nat → Int), (∀ j, BoxInv most a (g j) (L' j) (M' j) (H' j) (S' j)) ∧ ms.foldl (bstep most a) (tot k L, tot k M, tot k H, tot k S) = (tot k L', tot k M', tot k H', tot k S') := by
  intro ms
  induction ms with
  | nil => intro f l _ _ L M H S h; exact ⟨fun j => (f j).1, L, M, H, S, h, rfl⟩
  | cons m ms ih =>
    rintro f l ⟨b, l', _, hbk, hm, _, hfree⟩ h1 L M H S h
    have hm1 : 1 ≤ m := h1 m List.mem_cons_self
    have hb := h b
    have hbk' : b < k := by omega
    rw [List.foldl_cons]
    have hlast : ∀ m' ∈ ms, 1 ≤ m' := fun x hx => h1 x (List.mem_cons_of_mem _ hx)
    unfold BoxInv at hb
    obtain ⟨i1, i2, i3, i4, i5, i6, i7, i8, i9, i10⟩ := hb
    unfold bstep
    by_cases c1 : most - a < m
    · rw [if_pos c1]
      have e := tot_upd L b 1 k
      rw [if_pos hbk'] at e
      dsimp only
      rw [← e]
      refine ih (put f b m) l' hfree hlast _ M H S (fun j => ?_)
      by_cases hj : j = b
      · subst hj
        unfold BoxInv put
        rw [if_pos rfl, if_pos rfl]
        dsimp only
        split at i10
        · omega
        · have hL : L j = 0 := by omega
          rw [hL] at *
          rw [if_pos (by omega)]
          refine ⟨by omega, i2, by omega, i4, i5, by omega, i7, i8, by omega, by omega⟩
      · have := h j
        unfold put
        rw [if_neg hj, if_neg hj]
        exact this
    · rw [if_neg c1]
      by_cases c2 : most < 2 * m
      · rw [if_pos c2]
        have e := tot_upd M b 1 k
        have e2 := tot_upd H b m k
        rw [if_pos hbk'] at e e2
        dsimp only
        rw [← e, ← e2]
        refine ih (put f b m) l' hfree hlast L _ _ S (fun j => ?_)
        by_cases hj : j = b
        · subst hj
          unfold BoxInv put
          rw [if_pos rfl, if_pos rfl, if_pos rfl]
          dsimp only
          split at i10
          · omega
          · have hL : L j = 0 := by omega
            have hM : M j = 0 := by omega
            have hH := i4 hM
            rw [hL, hM, hH] at *
            rw [if_neg (by omega)]
            refine ⟨by omega, by omega, by omega, by omega, by omega, by omega, i7, i8, by omega, by omega⟩
        · have := h j
          unfold put
          rw [if_neg hj, if_neg hj, if_neg hj]
          exact this
      · rw [if_neg c2]
        by_cases c3 : a ≤ m
        · rw [if_pos c3]
          have e := tot_upd S b m k
          rw [if_pos hbk'] at e
          dsimp only
          rw [← e]
          refine ih (put f b m) l' hfree hlast L M H _ (fun j => ?_)
          by_cases hj : j = b
          · subst hj
            unfold BoxInv put
            rw [if_pos rfl, if_pos rfl]
            dsimp only
            split at i10
            · omega
            · have hL : L j = 0 := by omega
              rw [hL] at *
              rw [if_neg (by omega)]
              refine ⟨by omega, i2, by omega, i4, i5, by omega, by omega, by omega, by omega, by omega⟩
          · have := h j
            unfold put
            rw [if_neg hj, if_neg hj]
            exact this
        · rw [if_neg c3]
          refine ih (put f b m) l' hfree hlast L M H S (fun j => ?_)
          by_cases hj : j = b
          · subst hj
            unfold BoxInv put
            rw [if_pos rfl]
            exact ⟨i1, i2, i3, i4, i5, i6, i7, i8, by dsimp only; omega, by dsimp only; omega⟩
          · have := h j
            unfold put
            rw [if_neg hj]
            exact this

/-- No assignment has fewer boxes than the formula says, at any threshold. -/
theorem bval_le {most each a : Int} {k : Nat} (ha : 0 ≤ a) (ha2 : 2 * a ≤ most) (hmost : 1 ≤ most) {ms : List Int} {l : List Int} (h : Free most each k ms (fun _ => (0, 0)) l) (h1 : ∀ m ∈ ms, 1 ≤ m) : bval ms most a ≤ k := by
  obtain ⟨g, L, M, H, S, hi, hf⟩ := free_stats ha ha2 ms _ l h h1 (fun _ => 0) (fun _ => 0) (fun _ => 0) (fun _ => 0) (fun j => by unfold BoxInv; simp; omega)
  rw [tot_zero] at hf
  unfold bval
  rw [hf]
  have e1 : tot k (fun j => L j + M j) ≤ tot k (fun _ => 1) := tot_le k (fun j _ => by have := hi j; unfold BoxInv at this; omega)
  have e1' : tot k (fun _ => (1 : Int)) = k := by
    have := tot_room (fun _ => 0) 1 k
    rw [tot_zero] at this
    simpa using this
  rw [tot_add, e1'] at e1
  have e2 : tot k (fun j => H j + S j) ≤ tot k (fun j => (1 - L j) * most) := tot_le k (fun j _ => by
    have := hi j; unfold BoxInv at this
    obtain ⟨i1, i2, i3, i4, i5, i6, i7, i8, i9, i10⟩ := this
    rcases i1 with hL | hL
    · have e : (1 - L j) * most = most := by rw [hL]; simp
      rw [if_neg (by omega)] at i10; omega
    · have e : (1 - L j) * most = 0 := by rw [hL]; simp
      have := i6 hL; have := i4 (by omega); omega)
  rw [tot_add, tot_room] at e2
  unfold bform brest
  dsimp only
  split
  · have e3 : (tot k S - (tot k M * most - tot k H) + most - 1) / most < k - tot k L - tot k M + 1 := by
      refine Int.ediv_lt_of_lt_mul (by omega) ?_
      have e4 : (↑k - tot k L - tot k M + 1) * most = (k - tot k L) * most - tot k M * most + most := by
        rw [Int.add_mul, Int.sub_mul, Int.one_mul]
      rw [e4]; omega
    omega
  · omega

theorem foldl_max_le {α : Type} (g : Int → α → Int) (c : Int) : ∀ (l : List α) (b : Int), b ≤ c → (∀ x ∈ l, ∀ b, b ≤ c → g b x ≤ c) → l.foldl g b ≤ c
  | [], _, h, _ => h
  | x :: l, b, h, k => by rw [List.foldl_cons]; exact foldl_max_le g c l _ (k x List.mem_cons_self b h) (fun y hy => k y (List.mem_cons_of_mem _ hy))
theorem foldl_max_ge {α : Type} (g : Int → α → Int) (hg : ∀ b x, b ≤ g b x) (c : Int) : ∀ (l : List α) (b : Int), (c ≤ b ∨ ∃ x ∈ l, ∀ b, c ≤ g b x) → c ≤ l.foldl g b
  | [], _, h => by
    rcases h with h | ⟨x, hx, _⟩
    · exact h
    · simp at hx
  | x :: l, b, h => by
    rw [List.foldl_cons]
    refine foldl_max_ge g hg c l _ ?_
    rcases h with h | ⟨y, hy, h⟩
    · exact .inl (Int.le_trans h (hg b x))
    · rcases List.mem_cons.1 hy with rfl | hy
      · exact .inl (h b)
      · exact .inr ⟨y, hy, h⟩

theorem boundF_le {most each : Int} {k : Nat} (hmost : 1 ≤ most) {ms : List Int} {l : List Int} (h : Free most each k ms (fun _ => (0, 0)) l) (h1 : ∀ m ∈ ms, 1 ≤ m) : boundF ms most ≤ k := by
  unfold boundF
  refine foldl_max_le _ _ _ _ (by omega) (fun a ha b hb => ?_)
  have ha0 : 0 ≤ a := by
    rcases List.mem_cons.1 ha with rfl | ha
    · omega
    · have := h1 a ha; omega
  split
  · exact hb
  · have := bval_le ha0 (by omega) hmost h h1
    omega

/-- The masses that all boxes hold are at most what they take. -/
theorem free_sum {most each : Int} {k : Nat} : ∀ (ms : List Int) (f : Nat → Int × Int) (l : List Int), Free most each k ms f l → (∀ j, (f j).1 ≤ most) → ms.sum + tot k (fun j => (f j).1) ≤ k * most := by
  intro ms
  induction ms with
  | nil =>
    intro f l _ h
    have := tot_le (g := fun j => (f j).1) (h := fun j => (1 - (fun _ => 0) j) * most) k (fun j _ => by simpa using h j)
    rw [tot_room, tot_zero] at this
    simpa using this
  | cons m ms ih =>
    rintro f l ⟨b, l', _, hbk, hm, _, hfree⟩ h
    have := ih (put f b m) l' hfree (fun j => by
      unfold put
      split
      · exact hm
      · exact h j)
    have e : (fun j => (put f b m j).1) = fun j => if j = b then (f j).1 + m else (f j).1 := by
      funext j
      unfold put
      by_cases hj : j = b
      · rw [if_pos hj, if_pos hj, hj]
      · rw [if_neg hj, if_neg hj]
    rw [e, tot_upd (fun j => (f j).1), if_pos (by omega)] at this
    rw [List.sum_cons]; omega

/-! ### Both searches over numbers of boxes come to one number and one packing; both bounds are one. -/
def zf : Nat → Int × Int := fun _ => (0, 0)
theorem no12_zf : (fun b => no12.getD b (0, 0)) = zf := by funext b; exact no12_get b
theorem zeros_zf (k : Nat) : (fun b => (zeros k).getD b (0, 0)) = zf := by funext b; exact zeros_get k b

theorem mem_getD {ms : List Int} {m : Int} (h : m ∈ ms) : ∃ i, i < ms.length ∧ ms.getD i 0 = m := by
  obtain ⟨i, hi, e⟩ := List.mem_iff_getElem.1 h
  exact ⟨i, hi, by rw [List.getD_eq_getElem?_getD, List.getElem?_eq_getElem hi]; simpa using e⟩
theorem MOK.pos {ms : List Int} (h : MOK ms) : ∀ m ∈ ms, 1 ≤ m := fun m hm => by
  obtain ⟨i, hi, rfl⟩ := mem_getD hm
  exact (h.2 i hi).1

/-- Each thing in a box of its own. -/
theorem free_own {most each : Int} (he : 1 ≤ each) : ∀ (ms : List Int) (start : Nat) (f : Nat → Int × Int), (∀ m ∈ ms, m ≤ most) → (∀ b, start ≤ b → f b = (0, 0)) → ∃ l, Free most each ((start + ms.length : Nat) : Int) ms f l := by
  intro ms
  induction ms with
  | nil => intro start f _ _; exact ⟨[], rfl⟩
  | cons m ms ih =>
    intro start f hm hf
    obtain ⟨l, hl⟩ := ih (start + 1) (put f start m) (fun x hx => hm x (List.mem_cons_of_mem _ hx)) (fun b hb => by unfold put; rw [if_neg (by omega)]; exact hf b (by omega))
    refine ⟨start :: l, start, l, rfl, by simp; omega, by rw [hf start (Nat.le_refl _)]; simpa using hm m List.mem_cons_self, by rw [hf start (Nat.le_refl _)]; show (0 : Int) < each; omega, ?_⟩
    rw [show start + (m :: ms).length = start + 1 + ms.length by simp; omega]
    exact hl

section
variable {ms : List Int} {most each : Int}
/-- The program's search for k boxes. -/
theorem dfs12 (hms : ms.length ≤ 12) (he : 1 ≤ each) (k : Nat) :
    (∀ l, dfs most each k ms 0 no12 = some l → Way most each k ms 0 zf l ∧ ∀ l', Free most each k ms zf l' → LexLe l l') ∧ (dfs most each k ms 0 no12 = none ↔ ¬ ∃ l, Free most each k ms zf l) := by
  obtain ⟨h1, h2⟩ := dfs_spec (most := most) (each := each) (limit := k) ms 0 no12 (by omega) (.inr (by simp [no12]; omega)) (fun b => by rw [no12_get]; simp; omega)
  rw [no12_zf] at h1 h2
  have hlex : ∀ l, dfs most each k ms 0 no12 = some l → ∀ l', Free most each k ms zf l' → LexLe l l' := fun l h l' hf => by
    obtain ⟨l2, hw, hl⟩ := hf.way 0 (fun _ _ => rfl)
    exact ((h1 l h).2 l2 hw).trans hl
  refine ⟨fun l h => ⟨(h1 l h).1, hlex l h⟩, fun h => ?_, fun h => ?_⟩
  · rintro ⟨l, hf⟩
    obtain ⟨l2, hw, _⟩ := hf.way 0 (fun _ _ => rfl)
    exact h2 h l2 hw
  · cases hd : dfs most each k ms 0 no12 with
    | none => rfl
    | some l => exact absurd ⟨l, (h1 l hd).1.free⟩ h
theorem freeF_sum (nb : Nat) : freeF ms nb most = nb * most - ms.sum := by
  have key : ∀ (l : List Int) (x : Int), l.foldl (· - ·) x = x - l.sum := by
    intro l
    induction l with
    | nil => intro x; simp
    | cons m l ih => intro x; rw [List.foldl_cons, ih, List.sum_cons]; omega
  exact key ms _
theorem assignF_spec (he : 1 ≤ each) (hmost : 0 ≤ most) (k : Nat) :
    (∀ l, assignF ms k most each = some l → Way most each k ms 0 zf l ∧ ∀ l', Free most each k ms zf l' → LexLe l l') ∧ (assignF ms k most each = none ↔ ¬ ∃ l, Free most each k ms zf l) := by
  obtain ⟨h1, h2⟩ := dfs_spec (most := most) (each := each) (limit := k) ms 0 (zeros k) (by omega) (.inl (by simp [zeros])) (fun b => by rw [zeros_get]; simp; omega)
  rw [zeros_zf] at h1 h2
  by_cases hc : ms ≠ [] ∧ freeF ms k most < 0
  · have hn : ¬ ∃ l, Free most each k ms zf l := by
      rintro ⟨l, hf⟩
      have := free_sum ms zf l hf (fun _ => hmost)
      rw [show (fun j => (zf j).1) = fun _ => 0 from rfl, tot_zero] at this
      have h3 := freeF_sum (ms := ms) (most := most) k
      omega
    have e : assignF ms k most each = none := by unfold assignF; rw [if_pos hc]
    rw [e]
    exact ⟨fun l h => by simp at h, fun _ => hn, fun _ => rfl⟩
  · have e : assignF ms k most each = dfs most each k ms 0 (zeros k) := by unfold assignF; rw [if_neg hc]
    rw [e]
    have hlex : ∀ l, dfs most each k ms 0 (zeros k) = some l → ∀ l', Free most each k ms zf l' → LexLe l l' := fun l h l' hf => by
      obtain ⟨l2, hw, hl⟩ := hf.way 0 (fun _ _ => rfl)
      exact ((h1 l h).2 l2 hw).trans hl
    refine ⟨fun l h => ⟨(h1 l h).1, hlex l h⟩, fun h => ?_, fun h => ?_⟩
    · rintro ⟨l, hf⟩
      obtain ⟨l2, hw, _⟩ := hf.way 0 (fun _ _ => rfl)
      exact h2 h l2 hw
    · cases hd : dfs most each k ms 0 (zeros k) with
      | none => rfl
      | some l => exact absurd ⟨l, (h1 l hd).1.free⟩ h

theorem boundF_nonneg : 0 ≤ boundF ms most := by
  unfold boundF
  exact foldl_max_ge _ (fun b x => by split <;> omega) 0 _ _ (.inl (by omega))
theorem own_ways (h : thingsE ms most each = 0) : ∃ l, Free most each ms.length ms zf l := by
  obtain ⟨hms, _, he, hle⟩ := MOK.of_E h
  have := free_own (most := most) he.1 ms 0 zf (fun m hm => by obtain ⟨i, hi, rfl⟩ := mem_getD hm; exact hle i hi) (fun _ _ => rfl)
  rwa [Nat.zero_add] at this
theorem pack_hex (h : thingsE ms most each = 0) : ∃ n0 : Nat, boundF ms most ≤ n0 ∧ n0 ≤ 100 ∧ 0 ≤ boundF ms most ∧ dfs most each n0 ms 0 no12 ≠ none := by
  obtain ⟨hms, hm, he, hle⟩ := MOK.of_E h
  obtain ⟨l, hl⟩ := own_ways h
  refine ⟨ms.length, boundF_le hm.1 hl hms.pos, by have := hms.1; omega, boundF_nonneg, fun hn => ?_⟩
  exact (dfs12 hms.1 he.1 ms.length).2.1 hn ⟨l, hl⟩
theorem rpack_hex (h : thingsE ms most each = 0) : ∃ n0 : Nat, n0 ≤ ms.length ∧ assignF ms n0 most each ≠ none := by
  obtain ⟨hms, hm, he, hle⟩ := MOK.of_E h
  obtain ⟨l, hl⟩ := own_ways h
  exact ⟨ms.length, Nat.le_refl _, fun hn => (assignF_spec he.1 (by omega) ms.length).2.1 hn ⟨l, hl⟩⟩
/-- One number, one packing. -/
theorem pack_one (h : thingsE ms most each = 0) {n n' : Nat} {l l' : List Int} (_h1 : boundF ms most ≤ n) (h2 : ∀ k : Nat, boundF ms most ≤ k → k < n → dfs most each k ms 0 no12 = none) (h3 : dfs most each n ms 0 no12 = some l)
    (g2 : ∀ k : Nat, k < n' → assignF ms k most each = none) (g3 : assignF ms n' most each = some l') : n = n' ∧ l = l' := by
  obtain ⟨hms, hm, he, hle⟩ := MOK.of_E h
  have a1 := (dfs12 hms.1 he.1 n).1 l h3
  have b1 := (assignF_spec he.1 (by omega) n').1 l' g3
  have e : n = n' := by
    rcases Nat.lt_trichotomy n n' with hlt | e | hgt
    · exact absurd ⟨l, a1.1.free⟩ ((assignF_spec he.1 (by omega) n).2.1 (g2 n hlt))
    · exact e
    · have := boundF_le hm.1 b1.1.free hms.pos
      exact absurd ⟨l', b1.1.free⟩ ((dfs12 hms.1 he.1 n').2.1 (h2 n' this hgt))
  subst e
  exact ⟨rfl, (a1.2 l' b1.1.free).antisymm (by rw [a1.1.free.length, b1.1.free.length]) (b1.2 l a1.1.free)⟩

/-! ### Both bounds -/
def kc (most m : Int) : Int := if most < 2 * m then 1 else 0
def rc (most a m : Int) : Int := if most - a < m then 0 else if most < 2 * m then m - most else if a ≤ m then m else 0
def bf (most K R : Int) : Int := if 0 < R then K + (R + most - 1) / most else K
theorem fold_kr {a : Int} (ha2 : 2 * a ≤ most) : ∀ (l : List Int) (s : Int × Int × Int × Int), (l.foldl (bstep most a) s).1 + (l.foldl (bstep most a) s).2.1 = s.1 + s.2.1 + (l.map (kc most)).sum ∧ brest most (l.foldl (bstep most a) s) = brest most s + (l.map (rc most a)).sum := by
  intro l
  induction l with
  | nil => intro s; simp
  | cons m l ih =>
    intro s
    have := ih (bstep most a s m)
    rw [List.foldl_cons, List.map_cons, List.map_cons, List.sum_cons, List.sum_cons, this.1, this.2]
    have e1 : (bstep most a s m).1 + (bstep most a s m).2.1 = s.1 + s.2.1 + kc most m := by
      unfold bstep kc
      repeat' split
      all_goals (try dsimp only); omega
    have e2 : brest most (bstep most a s m) = brest most s + rc most a m := by
      unfold bstep rc brest
      repeat' split
      · (try dsimp only); omega
      · dsimp only; rw [Int.add_mul]; omega
      · (try dsimp only); omega
      · (try dsimp only); omega
    rw [e1, e2]; omega
theorem bval_kr {a : Int} (ha2 : 2 * a ≤ most) : bval ms most a = bf most (ms.map (kc most)).sum (ms.map (rc most a)).sum := by
  have h := fold_kr (most := most) ha2 ms (0, 0, 0, 0)
  have e : brest most (0, 0, 0, 0) = 0 := by unfold brest; simp
  rw [e] at h
  unfold bval bform bf
  rw [h.1, h.2]
  simp
theorem bf_mono (hm : 1 ≤ most) {K R R' : Int} (h : R ≤ R') : bf most K R ≤ bf most K R' := by
  unfold bf
  by_cases h1 : 0 < R
  · rw [if_pos h1, if_pos (by omega)]
    have := Int.ediv_le_ediv (a := R + most - 1) (b := R' + most - 1) (c := most) (by omega) (by omega)
    omega
  · rw [if_neg h1]
    split
    · have : 0 ≤ (R' + most - 1) / most := Int.ediv_nonneg (by omega) (by omega)
      omega
    · omega
theorem sum_le {g h : Int → Int} : ∀ (l : List Int), (∀ x ∈ l, g x ≤ h x) → (l.map g).sum ≤ (l.map h).sum
  | [], _ => by simp
  | x :: l, e => by
    rw [List.map_cons, List.map_cons, List.sum_cons, List.sum_cons]
    have := e x List.mem_cons_self
    have := sum_le l (fun y hy => e y (List.mem_cons_of_mem _ hy))
    omega
theorem sum_zero : ∀ (l : List Int), (l.map fun _ => (0 : Int)).sum = 0
  | [] => rfl
  | _ :: l => by rw [List.map_cons, List.sum_cons, sum_zero l]; rfl
theorem exists_min (p : Int → Prop) : ∀ (l : List Int), (∃ x ∈ l, p x) → ∃ x ∈ l, p x ∧ ∀ y ∈ l, p y → x ≤ y
  | [], ⟨x, hx, _⟩ => by simp at hx
  | x :: l, h => by
    by_cases hl : ∃ y ∈ l, p y
    · obtain ⟨y, hy, hpy, hmin⟩ := exists_min p l hl
      by_cases hx : p x ∧ x ≤ y
      · refine ⟨x, List.mem_cons_self, hx.1, fun z hz hpz => ?_⟩
        rcases List.mem_cons.1 hz with rfl | hz
        · exact Int.le_refl _
        · have := hmin z hz hpz; omega
      · refine ⟨y, List.mem_cons_of_mem _ hy, hpy, fun z hz hpz => ?_⟩
        rcases List.mem_cons.1 hz with rfl | hz
        · by_cases h2 : z ≤ y
          · exact absurd ⟨hpz, h2⟩ hx
          · omega
        · exact hmin z hz hpz
    · obtain ⟨y, hy, hpy⟩ := h
      rcases List.mem_cons.1 hy with rfl | hy
      · refine ⟨y, List.mem_cons_self, hpy, fun z hz hpz => ?_⟩
        rcases List.mem_cons.1 hz with rfl | hz
        · exact Int.le_refl _
        · exact absurd ⟨z, hz, hpz⟩ hl
      · exact absurd ⟨y, hy, hpy⟩ hl
theorem bval_cand (hm : 1 ≤ most) (hle : ∀ m ∈ ms, m ≤ most) {a : Int} (ha : 0 ≤ a) (ha2 : 2 * a ≤ most) : ∃ a' ∈ 0 :: ms, 2 * a' ≤ most ∧ bval ms most a ≤ bval ms most a' := by
  by_cases h : ∃ m ∈ ms, a ≤ m ∧ 2 * m ≤ most
  · obtain ⟨m, hmm, ⟨h1, h2⟩, hmin⟩ := exists_min (fun m => a ≤ m ∧ 2 * m ≤ most) ms h
    refine ⟨m, List.mem_cons_of_mem _ hmm, h2, ?_⟩
    rw [bval_kr ha2, bval_kr h2]
    refine bf_mono hm (sum_le ms (fun x hx => ?_))
    have := hle x hx
    unfold rc
    by_cases c2 : most < 2 * x
    · rw [if_pos c2]
      split <;> split <;> omega
    · have d1 : ¬ most - a < x := by omega
      have d2 : ¬ most - m < x := by omega
      rw [if_neg d1, if_neg d2, if_neg c2, if_neg c2]
      by_cases c3 : a ≤ x
      · have := hmin x hx ⟨c3, by omega⟩
        rw [if_pos c3, if_pos this]; exact Int.le_refl _
      · rw [if_neg c3, if_neg (by omega)]; exact Int.le_refl _
  · refine ⟨0, List.mem_cons_self, by omega, ?_⟩
    rw [bval_kr ha2, bval_kr (by omega)]
    have h0 : (ms.map (rc most a)).sum ≤ 0 := by
      have := sum_le (g := rc most a) (h := fun _ => 0) ms (fun x hx => by
        have h1 := hle x hx
        unfold rc
        split
        · omega
        · split
          · omega
          · split
            · rename_i h3 h4 h5; exact absurd ⟨x, hx, h5, by omega⟩ h
            · omega)
      rw [sum_zero] at this
      exact this
    have : bf most (ms.map (kc most)).sum (ms.map (rc most a)).sum = (ms.map (kc most)).sum := by unfold bf; rw [if_neg (by omega)]
    rw [this]
    unfold bf
    split
    · have : 0 ≤ ((ms.map (rc most 0)).sum + most - 1) / most := Int.ediv_nonneg (by omega) (by omega)
      omega
    · omega
theorem cand_le {a : Int} (ha : a ∈ 0 :: ms) (h2 : 2 * a ≤ most) : bval ms most a ≤ boundF ms most := by
  unfold boundF
  exact foldl_max_ge _ (fun b x => by split <;> omega) _ _ _ (.inr ⟨a, ha, fun b => by rw [if_neg (by omega)]; omega⟩)
theorem bound_one (h : thingsE ms most 1 = 0) : boundF ms most = rBoundF ms most := by
  obtain ⟨hms, ⟨hm0, hm1⟩, _, hle⟩ := MOK.of_E h
  have hle' : ∀ m ∈ ms, m ≤ most := fun m hm => by obtain ⟨i, hi, rfl⟩ := mem_getD hm; exact hle i hi
  have hr : ∀ a, rboundF ms most a ≤ boundF ms most := fun a => by
    unfold rboundF
    split
    · exact boundF_nonneg
    · obtain ⟨a', h1, h2, h3⟩ := bval_cand (ms := ms) hm0 hle' (a := a) (by omega) (by omega)
      exact Int.le_trans h3 (cand_le h1 h2)
  have hstep : ∀ b x, b ≤ rstep ms most b x := fun b x => by unfold rstep; omega
  apply Int.le_antisymm
  · unfold boundF
    refine foldl_max_le _ _ _ _ ?_ (fun a ha b hb => ?_)
    · have := (rboundF_bd ms most 0 hms hm0 hm1).1
      exact Int.le_trans this (foldl_max_ge _ hstep _ _ _ (.inl (Int.le_refl _)))
    · split
      · exact hb
      · rename_i h2
        have h3 : bval ms most a ≤ rBoundF ms most := by
          rcases List.mem_cons.1 ha with rfl | ha
          · have : rboundF ms most 0 = bval ms most 0 := by unfold rboundF; rw [if_neg (by omega)]
            rw [← this]
            exact foldl_max_ge _ hstep _ _ _ (.inl (Int.le_refl _))
          · have h4 := hms.pos a ha
            have : rboundF ms most a = bval ms most a := by unfold rboundF; rw [if_neg (by omega)]
            rw [← this]
            exact foldl_max_ge _ hstep _ _ _ (.inr ⟨a, ha, fun b => by unfold rstep; omega⟩)
        omega
  · unfold rBoundF
    exact foldl_max_le _ _ _ _ (hr 0) (fun m _ b hb => by
      unfold rstep
      have := hr m; have := hr (most - m); have := hr (m + 1); have := hr (most - m + 1)
      omega)
end

/-! ### What both packings answer, in one form. -/
/-- The number of boxes, the packing and its length: the least number with a packing and the first such packing; nothing where the arguments are refused. -/
def Best (ms : List Int) (most each : Int) (m : Int) (n2 : Nat) (l : List Int) : Prop :=
  (thingsE ms most each = 0 → ∃ n : Nat, m = n ∧ n ≤ ms.length ∧ n2 = ms.length ∧ boundF ms most ≤ n ∧ Way most each n ms 0 zf l ∧ (∀ l', Free most each n ms zf l' → LexLe l l') ∧ ∀ k : Nat, k < n → ∀ l', ¬ Free most each k ms zf l') ∧
  (thingsE ms most each ≠ 0 → m = 0 ∧ n2 = 0 ∧ l = [])
theorem Best.one {ms : List Int} {most each m m' : Int} {n n' : Nat} {l l' : List Int} (h : Best ms most each m n l) (k : Best ms most each m' n' l') : m = m' ∧ n = n' ∧ l = l' := by
  by_cases e : thingsE ms most each = 0
  · obtain ⟨a, rfl, _, rfl, _, h2, h3, h4⟩ := h.1 e
    obtain ⟨b, rfl, _, rfl, _, k2, k3, k4⟩ := k.1 e
    have hab : a = b := by
      rcases Nat.lt_trichotomy a b with hlt | he | hgt
      · exact absurd h2.free (k4 a hlt _)
      · exact he
      · exact absurd k2.free (h4 b hgt _)
    subst hab
    exact ⟨rfl, rfl, (h3 _ k2.free).antisymm (by rw [h2.free.length, k2.free.length]) (k3 _ h2.free)⟩
  · obtain ⟨rfl, rfl, rfl⟩ := h.2 e
    obtain ⟨rfl, rfl, rfl⟩ := k.2 e
    exact ⟨rfl, rfl, rfl⟩
theorem Best.length {ms : List Int} {most each m : Int} {n : Nat} {l : List Int} (h : Best ms most each m n l) : l.length = n := by
  by_cases e : thingsE ms most each = 0
  · obtain ⟨a, rfl, _, rfl, _, h2, _⟩ := h.1 e
    exact h2.free.length
  · obtain ⟨rfl, rfl, rfl⟩ := h.2 e
    rfl
def BestPost (ms : List Int) (most each : Int) (w : World) (e : Ending) (w' : World) : Prop :=
  ∃ (A : Option Addr) (n : Nat) (m : Int) (l : List Int), e = .returned (.tuple #[.slice A n n, .int .i64 m, .int .i64 (thingsE ms most each)]) ∧ Below w.heap.size w w' ∧ (Kd.int .i64).C w' A n l ∧ Best ms most each m n l
theorem nil_C (w : World) : (Kd.int .i64).C w none 0 [] := ⟨rfl, by decide, fun h => absurd h (by decide)⟩
theorem pack_best (w : World) (A : Option Addr) (c : Nat) (ms : List Int) (most each : Int) (h : (Kd.int .i64).C w A ms.length ms) :
    Calls Try.prog 17 #[.slice A ms.length c, .int .i64 most, .int .i64 each] w (BestPost ms most each w) := by
  refine (pack_any w A c ms most each h pack_hex).mono ?_
  rintro e w' ⟨h1, h2⟩
  by_cases he : thingsE ms most each = 0
  · rw [if_pos he] at h2
    obtain ⟨g, n, l, h3, h4, h5, h6, h7, h8⟩ := h2
    obtain ⟨hms, hm, hea, hle⟩ := MOK.of_E he
    have d := dfs12 (most := most) (each := each) hms.1 hea.1
    obtain ⟨l0, hl0⟩ := own_ways he
    have hmin : ∀ k : Nat, k < n → ∀ l', ¬ Free most each k ms zf l' := fun k hk l' hf =>
      (d k).2.1 (h4 k (boundF_le hm.1 hf hms.pos) hk) ⟨l', hf⟩
    have hn : n ≤ ms.length := by
      rcases Nat.lt_or_ge ms.length n with h | h
      · exact absurd hl0 (hmin _ h _)
      · exact h
    refine ⟨_, _, _, l, ?_, h1, h8 ▸ h7.ints_C (by rw [h8]; have := hms.1; omega), fun _ => ⟨n, rfl, hn, rfl, h3, ((d n).1 l h5).1, ((d n).1 l h5).2, hmin⟩, fun h => absurd he h⟩
    rw [he]; exact h6
  · rw [if_neg he] at h2
    exact ⟨none, 0, 0, [], h2, h1, nil_C _, fun h => absurd h he, fun _ => ⟨rfl, rfl, rfl⟩⟩
theorem rpack_best (w : World) (A : Option Addr) (c : Nat) (ms : List Int) (most each : Int) (h : (Kd.int .i64).C w A ms.length ms) :
    Calls Try.prog 18 #[.slice A ms.length c, .int .i64 most, .int .i64 each] w (BestPost ms most each w) := by
  refine (rpack_any w A c ms most each h rpack_hex).mono ?_
  rintro e w' ⟨h1, h2⟩
  by_cases he : thingsE ms most each = 0
  · rw [if_pos he] at h2
    obtain ⟨g, n, l, h3, h4, h5, h6, h7, h8⟩ := h2
    obtain ⟨hms, hm, hea, hle⟩ := MOK.of_E he
    have d := assignF_spec (ms := ms) (most := most) (each := each) hea.1 (by omega)
    have hw := (d n).1 l h5
    refine ⟨_, _, _, l, ?_, h1, h8, fun _ => ⟨n, rfl, h3, rfl, boundF_le hm.1 hw.1.free hms.pos, hw.1, hw.2, fun k hk l' hf => (d k).2.1 (h4 k hk) ⟨l', hf⟩⟩, fun h => absurd he h⟩
    rw [he]; exact h6
  · rw [if_neg he] at h2
    exact ⟨none, 0, 0, [], h2, h1, nil_C _, fun h => absurd h he, fun _ => ⟨rfl, rfl, rfl⟩⟩
theorem same_yes_C (w : World) (A B : Option Addr) (n c d : Nat) (l : List Int) (h : (Kd.int .i64).C w A n l) (k : (Kd.int .i64).C w B n l) : Calls Try.prog 19 #[.slice A n c, .slice B n d] w fun e w' => e = .returned (.bool true) ∧ Below w.heap.size w w' := by
  have e : l.length = n := h.1
  subst e
  exact (same_any w A B c d l l h k).mono fun e w' ⟨h1, h2⟩ => ⟨by rw [h1]; simp, h2⟩

end Go.Proofs.Ytnoocdobldchoaa

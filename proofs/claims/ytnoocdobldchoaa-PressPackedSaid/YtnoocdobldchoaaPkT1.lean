/- Packings, as plain mathematics: the search finds the least way in lexicographic order, and one whenever there is any. -/
import Derived.Test.YtnoocdobldchoaaPkB
import Derived.Test.YtnoocdobldchoaaPk
namespace Go.Proofs.Ytnoocdobldchoaa

/-- A box's content behind one thing more. -/
def put (f : Nat → Int × Int) (b : Nat) (m : Int) : Nat → Int × Int := fun k => if k = b then ((f b).1 + m, (f b).2 + 1) else f k

/-- An assignment to boxes below k, from a content on. -/
def Free (most each : Int) (k : Int) : List Int → (Nat → Int × Int) → List Int → Prop
  | [], _, l => l = []
  | m :: ms, f, l => ∃ (b : Nat) (l' : List Int), l = (b : Int) :: l' ∧ (b : Int) < k ∧ (f b).1 + m ≤ most ∧ (f b).2 < each ∧ Free most each k ms (put f b m) l'
/-- The same, and each new box is the one with the lowest number. -/
def Way (most each : Int) (k : Int) : List Int → Int → (Nat → Int × Int) → List Int → Prop
  | [], _, _, l => l = []
  | m :: ms, used, f, l => ∃ (b : Nat) (l' : List Int), l = (b : Int) :: l' ∧ (b : Int) < k ∧ (b : Int) ≤ used ∧ (f b).1 + m ≤ most ∧ (f b).2 < each ∧ Way most each k ms (max used (b + 1)) (put f b m) l'
/-- Less or equal in lexicographic order (of lists of one length). -/
def LexLe : List Int → List Int → Prop
  | [], _ => True
  | _ :: _, [] => False
  | x :: xs, y :: ys => x < y ∨ (x = y ∧ LexLe xs ys)
theorem LexLe.refl : ∀ l, LexLe l l
  | [] => trivial
  | _ :: xs => .inr ⟨rfl, LexLe.refl xs⟩
theorem LexLe.trans : ∀ {a b c : List Int}, LexLe a b → LexLe b c → LexLe a c
  | [], _, _, _, _ => trivial
  | _ :: _, [], _, h, _ => h.elim
  | _ :: _, _ :: _, [], _, h => h.elim
  | x :: xs, y :: ys, z :: zs, h, k => by
    rcases h with h | ⟨rfl, h⟩ <;> rcases k with k | ⟨rfl, k⟩
    · exact .inl (by omega)
    · exact .inl h
    · exact .inl k
    · exact .inr ⟨rfl, h.trans k⟩
theorem LexLe.antisymm : ∀ {a b : List Int}, a.length = b.length → LexLe a b → LexLe b a → a = b
  | [], [], _, _, _ => rfl
  | x :: xs, y :: ys, hl, h, k => by
    rcases h with h | ⟨rfl, h⟩
    · rcases k with k | ⟨rfl, k⟩ <;> omega
    · rcases k with k | ⟨_, k⟩
      · omega
      · rw [h.antisymm (by simpa using hl) k]

theorem Way.free {most each k : Int} : ∀ {ms : List Int} {used : Int} {f : Nat → Int × Int} {l : List Int}, Way most each k ms used f l → Free most each k ms f l
  | [], _, _, _, h => h
  | _ :: _, _, _, _, ⟨b, l', h1, h2, _, h4, h5, h6⟩ => ⟨b, l', h1, h2, h4, h5, h6.free⟩
theorem Free.length {most each k : Int} : ∀ {ms : List Int} {f : Nat → Int × Int} {l : List Int}, Free most each k ms f l → l.length = ms.length
  | [], _, _, h => by simp [Free] at h; simp [h]
  | _ :: _, _, _, ⟨b, l', h1, _, _, _, h6⟩ => by rw [h1]; simp [h6.length]

/-- Two boxes change places. -/
def swp (b c : Nat) (x : Nat) : Nat := if x = b then c else if x = c then b else x
def swpI (b c : Nat) (x : Int) : Int := if x = b then c else if x = c then b else x
theorem swp_swp (b c x : Nat) : swp b c (swp b c x) = x := by unfold swp; (repeat' split) <;> omega
theorem swpI_nat (b c x : Nat) : swpI b c (x : Int) = ((swp b c x : Nat) : Int) := by unfold swpI swp; (repeat' split) <;> omega
theorem put_swp (f : Nat → Int × Int) (b c x : Nat) (m : Int) : put (fun k => f (swp b c k)) (swp b c x) m = fun k => put f x m (swp b c k) := by
  funext k
  unfold put
  dsimp only
  rw [swp_swp]
  by_cases h : k = swp b c x
  · rw [if_pos h, if_pos (by rw [h, swp_swp])]
  · rw [if_neg h, if_neg (fun e => h (by rw [← e, swp_swp]))]
theorem Free.swap {most each k : Int} (b c : Nat) (hb : (b : Int) < k) (hc : (c : Int) < k) : ∀ {ms : List Int} {f : Nat → Int × Int} {l : List Int}, Free most each k ms f l → Free most each k ms (fun x => f (swp b c x)) (l.map (swpI b c))
  | [], _, _, h => by rw [h]; rfl
  | m :: ms, f, _, ⟨x, l', h1, h2, h4, h5, h6⟩ => by
    refine ⟨swp b c x, l'.map (swpI b c), by rw [h1, List.map_cons, swpI_nat], ?_, by dsimp only; rw [swp_swp]; exact h4, by dsimp only; rw [swp_swp]; exact h5, ?_⟩
    · unfold swp; (repeat' split) <;> omega
    · rw [put_swp]
      exact h6.swap b c hb hc

/-- Any assignment can be numbered anew, so that it is a way, and no later in lexicographic order. -/
theorem Free.way {most each k : Int} : ∀ {ms : List Int} {f : Nat → Int × Int} {l : List Int} (used : Nat), (∀ b, used ≤ b → f b = (0, 0)) → Free most each k ms f l → ∃ l', Way most each k ms used f l' ∧ LexLe l' l
  | [], _, l, _, _, h => ⟨[], rfl, trivial⟩
  | m :: ms, f, l, used, hf, ⟨b, l1, h1, h2, h4, h5, h6⟩ => by
    by_cases hb : b ≤ used
    · have hf' : ∀ x, max used (b + 1) ≤ x → put f b m x = (0, 0) := fun x hx => by
        unfold put
        rw [if_neg (by omega)]
        exact hf x (by omega)
      obtain ⟨l', hw, hl⟩ := Free.way (max used (b + 1)) hf' h6
      refine ⟨b :: l', ⟨b, l', rfl, h2, by omega, h4, h5, ?_⟩, ?_⟩
      · rw [show (max (used : Int) ((b : Int) + 1)) = ((max used (b + 1) : Nat) : Int) by omega]
        exact hw
      · rw [h1]; exact .inr ⟨rfl, hl⟩
    · have hub : f used = (0, 0) := hf used (Nat.le_refl _)
      have hbb : f b = (0, 0) := hf b (by omega)
      have hs := h6.swap b used h2 (by omega)
      have he : (fun x => put f b m (swp b used x)) = put f used m := by
        have h7 := put_swp f b used b m
        have h8 : (fun k => f (swp b used k)) = f := by
          funext x
          unfold swp
          split
          · rename_i h; rw [h, hub, hbb]
          · split
            · rename_i h; rw [h, hub, hbb]
            · rfl
        rw [h8] at h7
        rw [← h7]
        unfold swp
        rw [if_pos rfl]
      rw [he] at hs
      have hf' : ∀ x, max used (used + 1) ≤ x → put f used m x = (0, 0) := fun x hx => by
        unfold put
        rw [if_neg (by omega)]
        exact hf x (by omega)
      obtain ⟨l', hw, _⟩ := Free.way (max used (used + 1)) hf' hs
      refine ⟨used :: l', ⟨used, l', rfl, by omega, by omega, by rw [hub, ← hbb]; exact h4, by rw [hub, ← hbb]; exact h5, ?_⟩, ?_⟩
      · rw [show (max (used : Int) ((used : Int) + 1)) = ((max used (used + 1) : Nat) : Int) by omega]
        exact hw
      · rw [h1]; exact .inl (by omega)

/-- The search over contents that are lists finds the first way. -/
theorem dfs_spec {most each limit : Int} : ∀ (ms : List Int) (used : Int) (bx : List (Int × Int)), 0 ≤ used → (limit ≤ bx.length ∨ used + ms.length ≤ bx.length) → (∀ b, (bx.getD b (0, 0)).2 ≤ each) →
    (∀ l, dfs most each limit ms used bx = some l → Way most each limit ms used (fun b => bx.getD b (0, 0)) l ∧ ∀ l', Way most each limit ms used (fun b => bx.getD b (0, 0)) l' → LexLe l l') ∧
    (dfs most each limit ms used bx = none → ∀ l', ¬ Way most each limit ms used (fun b => bx.getD b (0, 0)) l') := by
  intro ms
  induction ms with
  | nil =>
    intro used bx _ _ _
    refine ⟨fun l h => ?_, fun h => by simp [dfs] at h⟩
    simp [dfs] at h
    subst h
    exact ⟨rfl, fun _ _ => trivial⟩
  | cons m ms ih =>
    intro used bx hu hlen hec
    have hput : ∀ b : Nat, (b : Int) < min (used + 1) limit → (fun x => (bx.set b ((bx.getD b (0, 0)).1 + m, (bx.getD b (0, 0)).2 + 1)).getD x (0, 0)) = put (fun b => bx.getD b (0, 0)) b m := by
      intro b hb
      have hbl : b < bx.length := by simp at hlen; omega
      funext x
      unfold put
      simp only [List.getD_eq_getElem?_getD, List.getElem?_set]
      by_cases hx : b = x
      · subst hx; rw [if_pos rfl, if_pos hbl, if_pos rfl]; rfl
      · rw [if_neg hx, if_neg (Ne.symm hx)]
    have hnext : ∀ b : Nat, (b : Int) < min (used + 1) limit → (limit ≤ (bx.set b ((bx.getD b (0, 0)).1 + m, (bx.getD b (0, 0)).2 + 1)).length ∨ max used (b + 1) + ms.length ≤ (bx.set b ((bx.getD b (0, 0)).1 + m, (bx.getD b (0, 0)).2 + 1)).length) := by
      intro b hb
      simp at hlen ⊢
      omega
    have hec2 : ∀ b : Nat, (b : Int) < min (used + 1) limit → (bx.getD b (0, 0)).2 < each → ∀ x, ((bx.set b ((bx.getD b (0, 0)).1 + m, (bx.getD b (0, 0)).2 + 1)).getD x (0, 0)).2 ≤ each := by
      intro b hb hlt x
      have := congrFun (hput b hb) x
      rw [show ((bx.set b ((bx.getD b (0, 0)).1 + m, (bx.getD b (0, 0)).2 + 1)).getD x (0, 0)) = put (fun b => bx.getD b (0, 0)) b m x from this]
      unfold put
      split
      · dsimp only; omega
      · exact hec x
    -- what a try says
    have htry : ∀ b : Nat, (b : Int) < min (used + 1) limit →
        (∀ l, try_ most each limit m ms used bx b = some l → ∃ l1, l = (b : Int) :: l1 ∧ (bx.getD b (0, 0)).1 + m ≤ most ∧ (bx.getD b (0, 0)).2 < each ∧ Way most each limit ms (max used (b + 1)) (put (fun b => bx.getD b (0, 0)) b m) l1 ∧ ∀ l', Way most each limit ms (max used (b + 1)) (put (fun b => bx.getD b (0, 0)) b m) l' → LexLe l1 l') ∧
        (try_ most each limit m ms used bx b = none → (bx.getD b (0, 0)).1 + m ≤ most → (bx.getD b (0, 0)).2 < each → ∀ l', ¬ Way most each limit ms (max used (b + 1)) (put (fun b => bx.getD b (0, 0)) b m) l') := by
      intro b hb
      unfold try_
      by_cases hc : most < (bx.getD b (0, 0)).1 + m ∨ (bx.getD b (0, 0)).2 = each
      · rw [if_pos hc]
        exact ⟨fun l h => by simp at h, fun _ h1 h2 => by omega⟩
      · rw [if_neg hc]
        have hlt : (bx.getD b (0, 0)).2 < each := by have := hec b; omega
        obtain ⟨h1, h2⟩ := ih (max used (b + 1)) _ (by omega) (hnext b hb) (hec2 b hb hlt)
        rw [hput b hb] at h1 h2
        refine ⟨fun l h => ?_, fun h _ _ => ?_⟩
        · obtain ⟨l1, h3, rfl⟩ := Option.map_eq_some_iff.1 h
          exact ⟨l1, rfl, by omega, hlt, (h1 l1 h3).1, (h1 l1 h3).2⟩
        · exact h2 (Option.map_eq_none_iff.1 h)
    constructor
    · intro l h
      rw [dfs_cons] at h
      obtain ⟨xs, b, ys, hr, hb, hno⟩ := List.findSome?_eq_some_iff.1 h
      have hxs : ∀ a ∈ xs, a < b := by
        have hp : List.Pairwise (· < ·) (xs ++ b :: ys) := by rw [← hr]; exact List.pairwise_lt_range
        exact fun a ha => (List.pairwise_append.1 hp).2.2 a ha b List.mem_cons_self
      have hxs2 : ∀ a, a < b → a ∈ xs := by
        intro a ha
        have hbm : b < (min (used + 1) limit).toNat := by
          have : b ∈ List.range (min (used + 1) limit).toNat := by rw [hr]; simp
          exact List.mem_range.1 this
        have : a ∈ List.range (min (used + 1) limit).toNat := List.mem_range.2 (by omega)
        rw [hr] at this
        rcases List.mem_append.1 this with h1 | h1
        · exact h1
        · have hp : List.Pairwise (· < ·) (xs ++ b :: ys) := by rw [← hr]; exact List.pairwise_lt_range
          rcases List.mem_cons.1 h1 with h2 | h2
          · omega
          · have := List.rel_of_pairwise_cons (List.pairwise_append.1 hp).2.1 h2
            omega
      have hbm : (b : Int) < min (used + 1) limit := by
        have : b ∈ List.range (min (used + 1) limit).toNat := by rw [hr]; simp
        have := List.mem_range.1 this
        omega
      obtain ⟨l1, rfl, h1, h2, h3, h4⟩ := (htry b hbm).1 l hb
      refine ⟨⟨b, l1, rfl, by omega, by omega, h1, h2, h3⟩, ?_⟩
      rintro l' ⟨b', l1', rfl, g1, g2, g3, g4, g5⟩
      rcases Nat.lt_trichotomy b b' with hlt | rfl | hgt
      · exact .inl (by omega)
      · exact .inr ⟨rfl, h4 _ g5⟩
      · exact absurd g5 ((htry b' (by omega)).2 (hno b' (hxs2 b' hgt)) g3 g4 l1')
    · intro h
      rw [dfs_cons] at h
      rintro l' ⟨b', l1', rfl, g1, g2, g3, g4, g5⟩
      have := List.findSome?_eq_none_iff.1 h b' (List.mem_range.2 (by omega))
      exact (htry b' (by omega)).2 this g3 g4 l1' g5
end Go.Proofs.Ytnoocdobldchoaa
